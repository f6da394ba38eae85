/- Part 5 of what the row stands on. -/
import Derived.Test.YtfknindefmcgdaaM4
set_option linter.unusedVariables false
set_option linter.unusedSimpArgs false
namespace Go.Dn
open Go
theorem ZCL (x y:Int):Z1l x y = if x < y then -1 else if y < x then 1 else 0:=by
 unfold Z1l Z2k
 simp only [bne_self_eq_false,cond_false,pickB,decide_eq_true_eq,gt_iff_lt,YA,if_false]
def Inc (l:List Granule):Prop:=∀ (j k:Nat) (a b:Granule),j < k→l[j]? = some a→l[k]? = some b→a.Index < b.Index
theorem bsearch_eq {l:List Granule} {t:Int} (hl:l.length * 32≤reachBytes) (hs:Inc l):∃ p:Nat,p≤l.length∧(∀ (k:Nat) (g:Granule),l[k]? = some g→(k < p ↔ g.Index < t)) ∧
  Z2 l t (fun z0 z1 => some (Z3e z0 z1)) = some ((p:Int),decide (∃ g,l[p]? = some g∧g.Index = t)):=by
 have hlen:(l.length:Int) < 4398046511104 * 4:=by have:=Z0e;omega
 have hcmp:∀ g i,Z3e g i = if g.Index < i then -1 else if i < g.Index then 1 else 0:=fun g i => ZCL _ _
 obtain ⟨r,h1,p,rfl,hp,hlow,hhigh⟩:=Z0D (step:=Z2.s0 l t (fun z0 z1 => some (Z3e z0 z1)))
  (I:=fun s => ∃ i j:Nat,s = ((i:Int),(j:Int))∧i≤j∧j≤l.length∧(∀ k g,l[k]? = some g→k < i→g.Index < t)∧(∀ k g,l[k]? = some g→j≤k→t≤g.Index))
  (fun s => (s.2 - s.1).toNat)
  (fun r => ∃ p:Nat,r = (p:Int)∧p≤l.length∧(∀ k g,l[k]? = some g→k < p→g.Index < t)∧(∀ k g,l[k]? = some g→p≤k→t≤g.Index)) (by
  rintro s ⟨i,j,rfl,hij,hj,hlow,hhigh⟩;unfold Z2.s0
  by_cases hlt:i < j
  ·have hm:w64 ((IntKind.u64.wrap (w64 ((i:Int) + j))).fdiv (2 ^ 1)) = ((i + j) / 2:Nat):=by
    rw [ZD (x:=(i:Int) + j) (by omega),Z5e,Y0L _ (by decide),ZD (by omega)]
    omega
   have hml:(i + j) / 2 < l.length:=by omega
   simp only [hm];rw [ZT (show (i:Int) < j by omega),cond_true,at?_nat hml]
   simp only [Y0,hcmp];refine .inl ?_;have hget:=Y2 hml
   by_cases hc:l[(i + j) / 2].Index < t
   ·rw [if_pos hc];refine ⟨((((i + j) / 2 + 1:Nat):Int),(j:Int)),?_,⟨(i + j) / 2 + 1,j,rfl,by omega,hj,fun k g hk hki => ?_,hhigh⟩,by simp;omega⟩
    ·rw [ZD (by omega)];simp
    ·rcases YE k ((i + j) / 2) with h | h
     ·have:=hs k _ g _ h hk hget;omega
     ·have:k = (i + j) / 2:=by omega
      subst this;rw [hget] at hk;cases hk;exact hc
   ·rw [if_neg hc];refine ⟨((i:Int),(((i + j) / 2:Nat):Int)),?_,⟨i,(i + j) / 2,rfl,by omega,by omega,hlow,fun k g hk hki => ?_⟩,by simp;omega⟩
    ·split <;> simp
    ·rcases YE ((i + j) / 2) k with h | h
     ·have:=hs _ k _ g h hget hk;omega
     ·have:k = (i + j) / 2:=by omega
      subst this;rw [hget] at hk;cases hk;omega
  ·refine .inr ⟨(i:Int),by rw [Za (show ¬ (i:Int) < j by omega)];rfl,i,rfl,by omega,hlow,fun k g hk hki => hhigh k g hk (by omega)⟩) (0,(l.length:Int)) ⟨0,l.length,rfl,YS _,YB _,fun k g _ h => by omega,fun k g hk h => by
    rw [Ya h] at hk;cases hk⟩
 refine ⟨p,hp,fun k g hk => ⟨fun h => hlow k g hk h,fun h => ?_⟩,?_⟩
 ·rcases YE k p with h2 | h2
  ·exact h2
  ·have:=hhigh k g hk h2;omega
 ·unfold Z2;rw [h1];simp only [Y0]
  by_cases hlt:p < l.length
  ·rw [ZT (show (p:Int) < l.length by omega),cond_true,at?_nat hlt]
   simp only [Y0,hcmp,Y5,Y3,true_and];have:=hhigh p _ (Y2 hlt) (YB _)
   rw [Y2 hlt]
   by_cases he:l[p].Index = t
   ·rw [if_neg (by omega),if_neg (by omega)];simp [he]
   ·rw [if_neg (by omega),if_pos (by omega)];simp [he]
  ·rw [Za (show ¬ (p:Int) < l.length by omega),cond_false]
   simp only [Y0,Y5,Y3,true_and];rw [Ya (by omega)]
   simp
structure Shape (f:Form):Prop where
 count:f.Count = f.Core.length
 zero:f.Count = 0 ↔ f.Period = 0
 per:0≤f.Period∧f.Period≤1099511627776
 core:∀ l ∈ f.Core,RightL l
 odd:∀ g ∈ f.Odd,RightL g.Ticks∧ZF g.Index
 inc:Inc f.Odd
structure Lim (f:Form):Prop where
 core:f.Core.length * 24≤reachBytes
 sets:∀ l ∈ f.Core,Len l∧Sp64 l
 odd:f.Odd.length * 32≤reachBytes
 ticks:∀ g ∈ f.Odd,In64 g.Index∧Len g.Ticks∧Sp64 g.Ticks
 count:In64 f.Count
 period:In64 f.Period
theorem Form.lim {f:Form} (h:f.ok):Lim f:=by
 obtain ⟨h1,h2,h3,h4⟩:=h
 exact ⟨h3.1,fun l hl => okSpans (h3.2 l hl),h4.1,fun g hg => ⟨(h4.2 g hg).1,okSpans (h4.2 g hg).2⟩,h2,h1⟩
theorem Z64 {f:Form} (hl:Lim f) (hs:Inc f.Odd) (i:Int):∃ p:Nat,p≤f.Odd.length∧(∀ (k:Nat) (g:Granule),f.Odd[k]? = some g→(k < p ↔ g.Index < i))∧Z4n f i = some ((p:Int),decide (∃ g,f.Odd[p]? = some g∧g.Index = i)):=by
 obtain ⟨p,h1,h2,h3⟩:=bsearch_eq (t:=i) hl.odd hs
 exact ⟨p,h1,h2,by unfold Z4n;rw [h3];rfl⟩
def Z3P (f:Form) (i:Int):Prop:=∃ g ∈ f.Odd,g.Index = i
def Z0G (f:Form) (i:Int):List Span:=f.Core.getD (i % f.Count).toNat []
def Z4u (f:Form) (i:Int):Int:=i / f.Count * f.Period
open Classical in
noncomputable def ZL (f:Form) (i:Int):List Span:=if h:Z3P f i then h.choose.Ticks else if f.Count = 0 then [] else (Z0G f i).map (ZW (Z4u f i))
theorem Inc.uniq {l:List Granule} (h:Inc l) {a b:Granule} (ha:a ∈ l) (hb:b ∈ l) (he:a.Index = b.Index):a = b:=by
 obtain ⟨j,hj⟩:=YC ha
 obtain ⟨k,hk⟩:=YC hb
 rcases Nat.lt_trichotomy j k with hjk | rfl | hjk
 ·have:=h j k a b hjk hj hk;omega
 ·rw [hj] at hk;cases hk;rfl
 ·have:=h k j b a hjk hk hj;omega
theorem Z18 {f:Form} (hs:Inc f.Odd) {g:Granule} (hg:g ∈ f.Odd):ZL f g.Index = g.Ticks:=by
 have h:Z3P f g.Index:=⟨g,hg,rfl⟩
 unfold ZL
 rw [dif_pos h]
 rw [hs.uniq h.choose_spec.1 hg h.choose_spec.2]
theorem Z3D {f:Form} {i:Int} (h:¬ Z3P f i) (h0:f.Count = 0):ZL f i = []:=by unfold ZL;rw [dif_neg h,if_pos h0]
theorem Z39 {f:Form} {i:Int} (h:¬ Z3P f i) (h0:f.Count ≠ 0):ZL f i = (Z0G f i).map (ZW (Z4u f i)):=by unfold ZL;rw [dif_neg h,if_neg h0]
theorem Z9v {f:Form} (hs:Shape f) (h0:f.Count ≠ 0):0 < f.Count:=by have:=hs.count;omega
theorem Z0K {f:Form} (hs:Shape f) (h0:f.Count ≠ 0) (i:Int):at? f.Core (i % f.Count) = some (Z0G f i)∧Z0G f i ∈ f.Core:=by
 have hp:=Z9v hs h0
 have h1:=Yk i h0
 have h2:=Yq i hp
 have h3:(i % f.Count).toNat < f.Core.length:=by have:=hs.count;omega
 unfold Z0G
 rw [at?_lt h1 (by have:=hs.count;omega),YL,Y2 h3]
 exact ⟨rfl,YY h3⟩
theorem Z8v {f:Form} (hl:Lim f) (hs:Shape f) {g:Granule} (hg:g ∈ f.Odd):Z2m f g.Index = some (g.Ticks,0,0):=by
 obtain ⟨p,h1,h2,h3⟩:=Z64 hl hs.inc g.Index
 obtain ⟨k,hk⟩:=YC hg
 have hkl:=(List.getElem?_eq_some_iff.1 hk).1
 have hpk:p≤k:=by
  rcases YE k p with h | h
  ·have:=(h2 k g hk).1 h;omega
  ·exact h
 have hpl:p < f.Odd.length:=by omega
 have hpg:=h2 p _ (Y2 hpl)
 have:p = k:=by
  rcases YE p k with h | h
  ·have:=hs.inc p k _ g h (Y2 hpl) hk
   exact absurd (hpg.2 this) (Nat.lt_irrefl _)
  ·omega
 subst this
 unfold Z2m
 rw [h3]
 simp only [Y0]
 rw [ZT ⟨g,hk,rfl⟩,cond_true,at?_nat hpl]
 rw [Y2 hpl] at hk
 cases hk;rfl
theorem Z7n {f:Form} (hl:Lim f) (hs:Shape f) {i:Int} (hi:In64 i) (ho:¬ Z3P f i):Z2m f i = if f.Count = 0 then some ([],0,0) else some (Z0G f i,(fitS (Z4u f i)).1,(fitS (Z4u f i)).2):=by
 obtain ⟨p,h1,h2,h3⟩:=Z64 hl hs.inc i
 unfold Z2m
 rw [h3]
 simp only [Y0]
 rw [Za (by rintro ⟨g,hg,he⟩;exact ho ⟨g,Y6 hg,he⟩),cond_false]
 by_cases h0:f.Count = 0
 ·rw [beq_t h0,cond_true,if_pos h0]
 ·rw [Z5D h0,cond_false,if_neg h0,Z0v hi hl.count,Z2U (Z9v hs h0)];simp only [Y0];rw [(Z0K hs h0 i).1];simp only [Y0];have hq:In64 (i / f.Count):=by
   have hp:=Z9v hs h0
   unfold In64 at hi ⊢
   constructor
   ·have : -9223372036854775808≤i / f.Count:=by
     rw [Int.le_ediv_iff_mul_le hp];have:(-9223372036854775808) * f.Count≤-9223372036854775808:=by
      have:(-9223372036854775808) * f.Count≤(-9223372036854775808) * 1:=Int.mul_le_mul_of_nonpos_left (by omega) (by omega)
      omega
     omega
    exact this
   ·have:i / f.Count≤9223372036854775807:=by
     rcases Int.lt_or_le i 0 with h | h
     ·have:i / f.Count < 0:=Int.ediv_neg_of_neg_of_pos h hp
      omega
     ·have:=Y0W f.Count h
      omega
    exact this
  rw [Z2w hq hl.period]
  rfl
def fits (f:Form) (i:Int):Prop:=∀ s ∈ ZL f i,ZF s.From∧ZF s.To
theorem Z9B (l:List Span):l.map (ZW 0) = l:=by
 have:ZW 0 = id:=by funext s;simp [ZW]
 rw [this,List.map_id]
theorem Z2I {f:Form} {i:Int} (ho:¬ Z3P f i) (h0:f.Count ≠ 0):ZL f i = [] ↔ Z0G f i = []:=by rw [Z39 ho h0,List.map_eq_nil_iff]
open Classical in
theorem Z3i {f:Form} (hl:Lim f) (hs:Shape f) {i:Int} (hi:In64 i):Zy f i = some (if ZF i∧fits f i then (ZL f i,0) else ([],20)):=by
 unfold Zy
 rw [Z76]
 by_cases ht:ZF i
 ·rw [ZT ht,Yd,cond_false]
  by_cases ho:Z3P f i
  ·obtain ⟨g,hg,rfl⟩:=ho
   have hset:=Z18 hs.inc hg
   have hr:=(hs.odd g hg).1
   have hf:fits f g.Index:=by
    intro s hsm;rw [hset] at hsm;obtain ⟨k,hk⟩:=YC hsm
    exact ⟨(hr.ok k s hk).1,(hr.ok k s hk).2.1⟩
   rw [Z8v hl hs hg,if_pos ⟨ht,hf⟩,hset];simp only [Y0]
   by_cases hn:g.Ticks = []
   ·rw [hn];rfl
   ·have:((g.Ticks.length:Int) == 0) = false:=Z5D (by have:=List.length_pos_iff.2 hn;omega)
    rw [this,cond_false];simp only [bne_self_eq_false,cond_false]
    rcases Z4k (b:=0) (hl.ticks g hg).2.1 hr.sp64 ⟨by decide,by decide⟩ with ⟨_,h2⟩ | ⟨h1,_⟩
    ·rw [h2,Z9B];rfl
    ·refine absurd (fun s hsm => ?_) h1
     rw [← hset] at hsm
     simpa using hf s hsm
  ·rw [Z7n hl hs hi ho]
   by_cases h0:f.Count = 0
   ·rw [if_pos h0,if_pos ⟨ht,by intro s hsm;rw [Z3D ho h0] at hsm;cases hsm⟩,Z3D ho h0];rfl
   ·rw [if_neg h0];simp only [Y0]
    by_cases hn:Z0G f i = []
    ·rw [if_pos ⟨ht,by intro s hsm;rw [(Z2I ho h0).2 hn] at hsm;cases hsm⟩,(Z2I ho h0).2 hn,hn];rfl
    ·have:(((Z0G f i).length:Int) == 0) = false:=Z5D (by have:=List.length_pos_iff.2 hn;omega)
     rw [this,cond_false];have hmem:=(Z0K hs h0 i).2
     have hr:=hs.core _ hmem
     have hfe:fits f i ↔ ∀ s ∈ Z0G f i,ZF (s.From + Z4u f i)∧ZF (s.To + Z4u f i):=by
      unfold fits;rw [Z39 ho h0]
      constructor
      ·intro h s hsm;exact h (ZW (Z4u f i) s) (List.mem_map.2 ⟨s,hsm,rfl⟩)
      ·intro h s hsm;obtain ⟨s,hsm',rfl⟩:=List.mem_map.1 hsm
       exact h s hsm'
     rcases Z7c (Z4u f i) with ⟨q1,q2⟩ | ⟨q1,q2⟩ <;> rw [q2]
     ·simp only [bne_self_eq_false,cond_false]
      rcases Z4k (b:=Z4u f i) (hl.sets _ hmem).1 hr.sp64 q1 with ⟨h1,h2⟩ | ⟨h1,h2⟩
      ·rw [h2,if_pos ⟨ht,hfe.2 h1⟩,Z39 ho h0];rfl
      ·rw [h2,if_neg (fun h => h1 (hfe.1 h.2))];rfl
     ·rw [if_neg]
      ·rfl
      ·rintro ⟨_,h⟩;have h:=hfe.1 h
       obtain ⟨s,hsm⟩:=List.exists_mem_of_ne_nil _ hn
       have h1:=(h s hsm).1
       obtain ⟨k,hk⟩:=YC hsm
       have h2:=(hr.ok k s hk).1
       unfold ZF at h1 h2;exact q1 (by unfold In64;omega)
 ·rw [Za ht,if_neg (fun h => ht h.1)];rfl
open Classical in
theorem Z9u {f:Form} (hl:Lim f) (hs:Shape f) {i:Int} (hi:In64 i):Z4M f i = some (decide (ZL f i ≠ [])):=by
 unfold Z4M
 by_cases ho:Z3P f i
 ·obtain ⟨g,hg,rfl⟩:=ho
  rw [Z8v hl hs hg,Z18 hs.inc hg];simp only [Y0];cases g.Ticks <;> simp
 ·rw [Z7n hl hs hi ho]
  by_cases h0:f.Count = 0
  ·rw [if_pos h0,Z3D ho h0];rfl
  ·rw [if_neg h0];simp only [Y0,Ne,Z2I ho h0];cases Z0G f i <;> simp
end Go.Dn

namespace Go.Dn
open Go
theorem Z2n {α:Type} {l:List α} {b:Nat} (h:l.length * (b + 1)≤reachBytes):(l.length:Int) < 4611686018427387904:=by
 have:=Z0e
 have:l.length≤l.length * (b + 1):=Nat.le_mul_of_pos_right _ (by omega)
 omega
theorem ZAu {α:Type} {l:List α} {k:Nat} {x:α} (h:l[k]? = some x):at? l (k:Int) = some x∧(k:Int) < l.length:=by
 have hlt:=(List.getElem?_eq_some_iff.1 h).1
 rw [Y2 hlt] at h
 exact ⟨by rw [at?_nat hlt];exact h,by omega⟩
theorem shape_core {f:Form} (hl:Lim f):(loopO (Zj.s0 f) 0 = some (.go ())∧∀ l ∈ f.Core,RightL l)∨(loopO (Zj.s0 f) 0 = some (.ret false)∧¬ ∀ l ∈ f.Core,RightL l):=by
 have hlen:=Z2n (b:=23) hl.core
 rcases Z4D (l:=f.Core) (step:=Zj.s0 f) (fun _ x => RightL x) (no:=.ret false) (yes:=.go ()) (fun k x hk _ => by
   obtain ⟨h1,h2⟩:=ZAu hk
   obtain ⟨b,hb,hr⟩:=Z89 (hl.sets x (Y6 hk)).1 (hl.sets x (Y6 hk)).2
   unfold Zj.s0;rw [ZT h2,cond_true,h1];simp only [Y0,hb,ZD (show -9223372036854775808≤(k:Int) + 1∧(k:Int) + 1≤9223372036854775807 by omega)]
   cases b
   ·exact .inr ⟨rfl,fun h => by have:=hr.2 h;cases this⟩
   ·exact .inl ⟨rfl,hr.1 rfl⟩) (by unfold Zj.s0;rw [Za (by omega)];rfl) with ⟨h1,h2⟩ | ⟨h1,h2⟩
 ·exact .inl ⟨h1,fun l hm => by obtain ⟨k,hk⟩:=YC hm;exact h2 k l hk⟩
 ·exact .inr ⟨h1,fun h => h2 fun k x hk => h x (Y6 hk)⟩
def goodOdd (f:Form) (k:Nat) (g:Granule):Prop:=RightL g.Ticks∧ZF g.Index∧∀ p,k ≠ 0→f.Odd[k - 1]? = some p→p.Index < g.Index
theorem shape_odd {f:Form} (hl:Lim f):(loopO (Zj.s1 f) 0 = some (.go ())∧∀ k g,f.Odd[k]? = some g→goodOdd f k g)∨(loopO (Zj.s1 f) 0 = some (.ret false)∧¬ ∀ k g,f.Odd[k]? = some g→goodOdd f k g):=by
 have hlen:=Z2n (b:=31) hl.odd
 refine Z4D (l:=f.Odd) (step:=Zj.s1 f) (goodOdd f) (no:=.ret false) (yes:=.go ()) (fun k x hk _ => ?_) (by unfold Zj.s1;rw [Za (by omega)];rfl)
 obtain ⟨h1,h2⟩:=ZAu hk
 have hx:=hl.ticks x (Y6 hk)
 obtain ⟨b,hb,hr⟩:=Z89 hx.2.1 hx.2.2
 unfold Zj.s1
 rw [ZT h2,cond_true,h1]
 simp only [Y0,hb,Z76,ZD (show -9223372036854775808≤(k:Int) + 1∧(k:Int) + 1≤9223372036854775807 by omega)]
 by_cases hbt:b = true∧ZF x.Index
 ·rw [hbt.1,ZT hbt.2];simp only [Yd,Bool.or_self,cond_false]
  by_cases h0:k = 0
  ·subst h0;exact .inl ⟨by simp,hr.1 hbt.1,hbt.2,fun p h => absurd rfl h⟩
  ·have hpl:k - 1 < f.Odd.length:=by omega
   rw [ZT (show (k:Int) > 0 by omega),cond_true,ZD (by omega),show (k:Int) - 1 = ((k - 1:Nat):Int) by omega,at?_nat hpl]
   simp only [Y0]
   by_cases hc:x.Index≤f.Odd[k - 1].Index
   ·rw [ZT hc];refine .inr ⟨rfl,fun h => ?_⟩
    have:=h.2.2 _ h0 (Y2 hpl);omega
   ·rw [Za hc];refine .inl ⟨rfl,hr.1 hbt.1,hbt.2,fun p _ hp => ?_⟩
    rw [Y2 hpl] at hp;cases hp;omega
 ·have:(!b || !decide (ZF x.Index)) = true:=by
   cases b
   ·rfl
   ·rw [Za (fun h => hbt ⟨rfl,h⟩)];rfl
  rw [this,cond_true];exact .inr ⟨rfl,fun h => hbt ⟨hr.2 h.1,h.2.1⟩⟩
theorem inc_of {f:Form} (h:∀ k g,f.Odd[k]? = some g→goodOdd f k g):Inc f.Odd:=by
 intro j k a b hjk ha hb
 induction k generalizing b with
 | zero => omega
 | succ k ih =>
  have hkl:=(List.getElem?_eq_some_iff.1 hb).1
  have h1:=(h (k + 1) b hb).2.2 f.Odd[k] (by omega) (by simp [Y2 (show k < f.Odd.length by omega)])
  rcases YE j k with h2 | h2
  ·have:=ih _ h2 (Y2 (show k < f.Odd.length by omega));omega
  ·have:j = k:=by omega
   subst this;rw [Y2 (show j < f.Odd.length by omega)] at ha;cases ha;exact h1
theorem gran_shape_eq {f:Form} (hl:Lim f):∃ b,Zj f = some b∧(b = true ↔ Shape f):=by
 unfold Zj
 by_cases h1:f.Count = f.Core.length∧(f.Count = 0 ↔ f.Period = 0)∧0≤f.Period∧f.Period≤1099511627776
 ·have e:(f.Count != (f.Core.length:Int) || (f.Count == 0) != (f.Period == 0) || decide (f.Period < 0) || decide (f.Period > 1099511627776)) = false:=by
   rw [bne_f h1.1,Za (show ¬ f.Period < 0 by omega),Za (show ¬ f.Period > 1099511627776 by omega)]
   simp only [Y0c,Bool.or_false,bne_eq_false_iff_eq,ibeq,decide_eq_decide];exact h1.2.1
  rw [e,cond_false]
  rcases shape_core hl with ⟨h2,h3⟩ | ⟨h2,h3⟩
  ·rw [h2];simp only [Y0,Jx.elim]
   rcases shape_odd hl with ⟨h4,h5⟩ | ⟨h4,h5⟩
   ·rw [h4];exact ⟨true,rfl,fun _ => ⟨h1.1,h1.2.1,h1.2.2,h3,fun g hg => by obtain ⟨k,hk⟩:=YC hg;exact ⟨(h5 k g hk).1,(h5 k g hk).2.1⟩,inc_of h5⟩,fun _ => rfl⟩
   ·rw [h4];refine ⟨false,rfl,fun h => (by cases h),fun h => absurd (fun k g hk => ⟨(h.odd g (Y6 hk)).1,(h.odd g (Y6 hk)).2,fun p h0 hp => h.inc (k - 1) k p g (by omega) hp hk⟩) h5⟩
  ·rw [h2];exact ⟨false,rfl,fun h => (by cases h),fun h => absurd h.core h3⟩
 ·have e:(f.Count != (f.Core.length:Int) || (f.Count == 0) != (f.Period == 0) || decide (f.Period < 0) || decide (f.Period > 1099511627776)) = true:=by
   apply Classical.byContradiction;intro hn;simp only [Yt,Bool.or_eq_false_iff,bne_eq_false_iff_eq,decide_eq_false_iff_not,ibeq,decide_eq_decide] at hn;exact h1 ⟨hn.1.1.1,hn.1.1.2,by omega,by omega⟩
  rw [e,cond_true];exact ⟨false,rfl,fun h => (by cases h),fun h => absurd ⟨h.count,h.zero,h.per⟩ h1⟩
def fstT (l:List Span):Int:=(l.head?.map Span.From).getD 0
def lstT (l:List Span):Int:=(l.getLast?.map Span.To).getD 0
theorem ZC0 {a b:List Span} (ha:a ≠ []) (hb:b ≠ []):Z3b a b ↔ lstT a < fstT b:=by
 unfold Z3b lstT fstT
 rw [Y00 ha,Y04 hb]
 simp
theorem RightL.tail {s:Span} {l:List Span} (h:RightL (s :: l)):RightL l :=
 ⟨fun k x hk => h.ok (k + 1) x hk,fun k x y hx hy => h.gap (k + 1) x y hx hy⟩
theorem Z5T {l:List Span} (h:RightL l) (hn:l ≠ []):fstT l≤lstT l:=by
 induction l with
 | nil => exact absurd rfl hn
 | cons s l ih =>
  have h0:=h.ok 0 s rfl
  cases l with
  | nil => simp [fstT,lstT];exact h0.2.2
  | cons t l =>
   have h1:=h.gap 0 s t rfl rfl
   have h2:=ih h.tail (by simp)
   have e1:lstT (s :: t :: l) = lstT (t :: l):=by simp [lstT]
   have e2:fstT (t :: l) = t.From:=rfl
   have e3:fstT (s :: t :: l) = s.From:=rfl
   rw [e1,e3];rw [e2] at h2;omega
theorem lst_tick {l:List Span} (h:RightL l) (hn:l ≠ []):ZF (lstT l)∧ZF (fstT l):=by
 have h1:l.getLast? = some (l.getLast hn):=Y00 hn
 have h2:l.head? = some (l.head hn):=Y04 hn
 obtain ⟨j,hj⟩:=YC (List.getLast_mem hn)
 obtain ⟨k,hk⟩:=YC (List.head_mem hn)
 unfold lstT fstT
 rw [h1,h2]
 exact ⟨(h.ok j _ hj).2.1,(h.ok k _ hk).1⟩
def full (f:Form):List (List Span):=f.Core.filter (fun l => decide (l.length > 0))
def Turns (f:Form):Prop:=(∀ (k:Nat) (a b:List Span),(full f)[k]? = some a→(full f)[k + 1]? = some b→lstT a < fstT b)∧∀ a b,(full f).getLast? = some a→(full f).head? = some b→lstT a < fstT b + f.Period
theorem full_loop {f:Form} (hl:Lim f):loopO (Z08.s0 f) (0,[]) = some (full f):=by
 have hlen:=Z2n (b:=23) hl.core
 refine Z2E (I:=fun s r => r = full f∧∃ k:Nat,k≤f.Core.length∧s = ((k:Int),(f.Core.take k).filter (fun l => decide (l.length > 0)))) (fun s => f.Core.length - s.1.toNat) ?_ ⟨rfl,0,YS _,by simp⟩
 rintro s r ⟨rfl,k,hk,rfl⟩
 unfold Z08.s0
 by_cases hlt:k < f.Core.length
 ·have htake:f.Core.take (k + 1) = f.Core.take k ++ [f.Core[k]]:=Y0Q hlt
  simp only;rw [ZT (show (k:Int) < f.Core.length by omega),cond_true,at?_nat hlt,ZD (by omega)]
  simp only [Y0];refine .inl ?_;have hfl:((f.Core.take k).filter (fun l => decide (l.length > 0))).length≤k:=YX (Y0E _ _) (by rw [YQ];exact Nat.min_le_left _ _)
  by_cases hc:f.Core[k].length > 0
  ·rw [ZT (show ((f.Core[k].length:Int) > 0) by omega),cond_true,app?_ok (by have h1:=hl.core;rw [Z0e] at h1;rw [Z4i];simp only [Yu];omega)]
   exact ⟨_,rfl,⟨trivial,k + 1,hlt,by rw [htake,List.filter_append];simp [hc]⟩,by simp;omega⟩
  ·rw [Za (show ¬ ((f.Core[k].length:Int) > 0) by omega),cond_false]
   exact ⟨_,rfl,⟨trivial,k + 1,hlt,by rw [htake,List.filter_append];simp [hc]⟩,by simp;omega⟩
 ·have:k = f.Core.length:=by omega
  subst this;simp only;rw [Za (show ¬ ((f.Core.length:Int) < f.Core.length) by omega),cond_false,Y0F]
  exact .inr rfl
theorem gran_turns_eq {f:Form} (hl:Lim f) (hs:Shape f):∃ b,Z08 f = some b∧(b = true ↔ Turns f):=by
 have hlen:=Z2n (b:=23) hl.core
 have hfl:(full f).length≤f.Core.length:=Y0E _ _
 have hmem:∀ x ∈ full f,x ∈ f.Core∧x ≠ []:=fun x hx => by
  have:=List.mem_filter.1 hx
  exact ⟨this.1,by rintro rfl;simp at this⟩
 unfold Z08
 rw [full_loop hl]
 simp only [Y0]
 rcases Z4D (l:=full f) (step:=Z08.s1 f (full f)) (fun k a => ∀ b,(full f)[(k + 1) % (full f).length]? = some b→lstT a < fstT b + (if k + 1 = (full f).length then f.Period else 0)) (no:=.ret false) (yes:=.go ()) (fun k a hk _ => by
   obtain ⟨h1,h2⟩:=ZAu hk
   have hkl:k < (full f).length:=by omega
   have hmod:(k + 1) % (full f).length < (full f).length:=Nat.mod_lt _ (by omega)
   have hnext:at? (full f) ((((k + 1) % (full f).length:Nat):Int)) = some (full f)[(k + 1) % (full f).length]:=at?_nat hmod
   obtain ⟨ha1,ha2⟩:=hmem a (Y6 hk)
   obtain ⟨hb1,hb2⟩:=hmem _ (YY hmod)
   have hra:=hs.core a ha1
   have hrb:=hs.core _ hb1
   have hal:a.length - 1 < a.length:=by have:=List.length_pos_iff.2 ha2;omega
   have hlast:at? a (w64 ((a.length:Int) - 1)) = some a[a.length - 1]:=by
    have:=Z2n (b:=15) (hl.sets a ha1).1
    rw [ZD (by omega),show (a.length:Int) - 1 = ((a.length - 1:Nat):Int) by omega,at?_nat hal]
   have hlt:lstT a = a[a.length - 1].To:=by unfold lstT;rw [Y0N,Y2 hal];rfl
   unfold Z08.s1;rw [ZT h2,cond_true,h1,nz?_ok (by omega),ZD (x:=(k:Int) + 1) (by omega)]
   have htm:((k:Int) + 1).tmod ((full f).length:Int) = (((k + 1) % (full f).length:Nat):Int):=by
    rw [Int.tmod_eq_emod_of_nonneg (by omega)];push_cast;rfl
   simp only [Y0,htm,hnext,hlast];rw [Y2 hmod];generalize (full f)[(k + 1) % (full f).length] = b at *
   have hb0:at? b 0 = some (b.head hb2):=by
    cases b with
    | nil => exact absurd rfl hb2
    | cons y b => rfl
   have hbf:fstT b = (b.head hb2).From:=by unfold fstT;rw [Y04 hb2];rfl
   have htick:=(lst_tick hrb hb2).2
   unfold ZF at htick;have hper:=hs.per
   by_cases hl1:k + 1 = (full f).length
   ·have e:((k:Int) + 1 == ((full f).length:Int)) = true:=beq_t (by omega)
    rw [e,cond_true];simp only [Y0,hb0,← hbf,ZD (show -9223372036854775808≤fstT b + f.Period∧fstT b + f.Period≤9223372036854775807 by omega),← hlt,if_pos hl1]
    by_cases hc:lstT a ≥ fstT b + f.Period
    ·rw [ZT hc];exact .inr ⟨rfl,fun h => by have:=h b rfl;omega⟩
    ·rw [Za hc];exact .inl ⟨rfl,fun b' hb' => by cases hb';omega⟩
   ·have e:((k:Int) + 1 == ((full f).length:Int)) = false:=Z5D (by omega)
    rw [e,cond_false];simp only [Y0,hb0,← hbf,ZD (show -9223372036854775808≤fstT b + 0∧fstT b + 0≤9223372036854775807 by omega),← hlt,if_neg hl1]
    by_cases hc:lstT a ≥ fstT b + 0
    ·rw [ZT hc];exact .inr ⟨rfl,fun h => by have:=h b rfl;omega⟩
    ·rw [Za hc];exact .inl ⟨rfl,fun b' hb' => by cases hb';omega⟩) (by unfold Z08.s1;rw [Za (by omega)];rfl) with ⟨h1,h2⟩ | ⟨h1,h2⟩
 ·rw [h1];refine ⟨true,rfl,fun _ => ⟨fun k a b ha hb => ?_,fun a b ha hb => ?_⟩,fun _ => rfl⟩
  ·have hkl:=(List.getElem?_eq_some_iff.1 hb).1
   have:=h2 k a ha b (by rw [Nat.mod_eq_of_lt hkl];exact hb)
   rw [if_neg (by omega)] at this;omega
  ·have hn:full f ≠ []:=by rintro e;rw [e] at ha;simp at ha
   have hpos:=List.length_pos_iff.2 hn
   rw [Y0N] at ha;have e1:(full f).length - 1 + 1 = (full f).length:=by omega
   have:=h2 _ a ha b (by rw [e1,Nat.mod_self,← List.head?_eq_getElem?];exact hb)
   rw [if_pos e1] at this;exact this
 ·rw [h1];refine ⟨false,rfl,fun h => (by cases h),fun h => absurd (fun k a hk b hb => ?_) h2⟩
  have hkl:=(List.getElem?_eq_some_iff.1 hk).1
  by_cases hl1:k + 1 = (full f).length
  ·rw [if_pos hl1];rw [hl1,Nat.mod_self,← List.head?_eq_getElem?] at hb;exact h.2 a b (by rw [Y0N,← hl1];exact hk) hb
  ·rw [if_neg hl1];rw [Nat.mod_eq_of_lt (by omega)] at hb
   have:=h.1 k a b hk hb;omega
end Go.Dn

namespace Go.Dn
open Go
theorem ZBY {l:List (List Span)} {p:List Span→Bool} (hl:l.length * 24≤reachBytes):ZV l (fun z => some (p z)) = some (decide (∃ x ∈ l,p x = true)):=by
 have hlen:=Z2n (b:=23) hl
 unfold ZV ZC
 by_cases hall:∀ (k:Nat) (x:List Span),l[k]? = some x→¬ p x = true
 ·have:loopO (ZC.s0 l (fun z => some (p z))) 0 = some (.go ()):=by
   refine Z2E (I:=fun (s:Int) r => r = .go ()∧∃ k:Nat,s = k∧k≤l.length) (fun s => l.length - s.toNat) ?_ ⟨rfl,0,rfl,YS _⟩
   rintro s r ⟨rfl,k,rfl,hk⟩;unfold ZC.s0
   by_cases hlt:k < l.length
   ·rw [ZT (show (k:Int) < l.length by omega),cond_true,at?_nat hlt,ZD (by omega)]
    have:=hall k _ (Y2 hlt)
    simp only [Y0,Yt] at this ⊢;rw [this];exact .inl ⟨_,rfl,⟨trivial,k + 1,by push_cast;rfl,hlt⟩,by simp;omega⟩
   ·rw [Za (show ¬ (k:Int) < l.length by omega)];exact .inr rfl
  rw [this,Za (by rintro ⟨x,hx,hp⟩;obtain ⟨k,hk⟩:=YC hx;exact hall k x hk hp)]
  rfl
 ·obtain ⟨k0,x0,hx0,hb0,hg⟩:=ZAb (good:=fun _ x => ¬ p x = true) hall
  have hb0:p x0 = true:=Classical.byContradiction hb0
  have hlt0:=(List.getElem?_eq_some_iff.1 hx0).1
  have:loopO (ZC.s0 l (fun z => some (p z))) 0 = some (.ret (k0:Int)):=by
   refine Z2E (I:=fun (s:Int) r => r = .ret (k0:Int)∧∃ k:Nat,s = k∧k≤k0) (fun s => l.length - s.toNat) ?_ ⟨rfl,0,rfl,YS _⟩
   rintro s r ⟨rfl,k,rfl,hk⟩;unfold ZC.s0;have hkl:k < l.length:=by omega
   rw [ZT (show (k:Int) < l.length by omega),cond_true,at?_nat hkl,ZD (by omega)]
   by_cases hlt:k < k0
   ·have:=hg k _ hlt (Y2 hkl)
    simp only [Y0,Yt] at this ⊢;rw [this];exact .inl ⟨_,rfl,⟨trivial,k + 1,by push_cast;rfl,hlt⟩,by simp;omega⟩
   ·have:k = k0:=by omega
    subst this;rw [Y2 hkl] at hx0;cases hx0;simp only [Y0,hb0];exact .inr rfl
  rw [this,ZT ⟨x0,Y6 hx0,hb0⟩];simp only [Y0,Jx.elim];rw [ZT (by omega)]
def Bare (f:Form):Prop:=∀ l ∈ f.Core,l = []
theorem Z6x {f:Form} (hl:Lim f):∃ b,Z3K f = some b∧(b = true ↔ Bare f):=by
 unfold Z3K
 rw [ZBY hl.core]
 refine ⟨_,rfl,?_⟩
 simp only [Z4s,YU,decide_eq_false_iff_not,decide_eq_true_eq]
 constructor
 ·intro h l hm;apply Classical.byContradiction;intro hn;exact h ⟨l,hm,by have:=List.length_pos_iff.2 hn;omega⟩
 ·rintro h ⟨l,hm,hp⟩;rw [h l hm] at hp;simp at hp
theorem Z77 {f:Form} (hs:Shape f) (hb:Bare f) {i:Int} (ho:¬ Z3P f i):ZL f i = []:=by
 by_cases h0:f.Count = 0
 ·exact Z3D ho h0
 ·exact (Z2I ho h0).2 (hb _ (Z0K hs h0 i).2)
def UpTo (f:Form) (i:Int) (r:Int × Bool):Prop:=(r.2 = true∧i≤r.1∧ZF r.1∧ZL f r.1 ≠ []∧∀ k,i≤k→k < r.1→ZL f k = [])∨(r.2 = false∧r.1 = 0∧∀ k,i≤k→ZF k→ZL f k = [])
def DownTo (f:Form) (i:Int) (r:Int × Bool):Prop:=(r.2 = true∧r.1≤i∧ZF r.1∧ZL f r.1 ≠ []∧∀ k,k≤i→r.1 < k→ZL f k = [])∨(r.2 = false∧r.1 = 0∧∀ k,k≤i→ZF k→ZL f k = [])
theorem odd_split {f:Form} (hs:Shape f) {p:Nat} {i:Int} (hp:∀ (k:Nat) (g:Granule),f.Odd[k]? = some g→(k < p ↔ g.Index < i)) {j:Int} (hj:Z3P f j):∃ (k:Nat) (g:Granule),f.Odd[k]? = some g∧g.Index = j∧(k < p ↔ j < i):=by
 obtain ⟨g,hg,rfl⟩:=hj
 obtain ⟨k,hk⟩:=YC hg
 exact ⟨k,g,hk,rfl,hp k g hk⟩
theorem gran_step_up {f:Form} (hl:Lim f) (hs:Shape f) {i:Int} (hi : -1099511627776≤i∧i≤1099511627776):∃ r,Zs f i 1 = some r∧UpTo f i r:=by
 have hi64:In64 i:=by unfold In64;omega
 obtain ⟨b,hb,hbb⟩:=Z6x hl
 have holen:=Z2n (b:=31) hl.odd
 unfold Zs
 rw [hb]
 simp only [Y0]
 cases b with
 | true =>
  have hbare:=hbb.1 rfl
  rw [cond_true];obtain ⟨p,h1,h2,h3⟩:=Z64 hl hs.inc i
  rw [h3];simp only [Y0,Za (show ¬ (1:Int) < 0 by omega),Y0V,cond_false]
  obtain ⟨r,hr,hpost⟩:=Z0D (step:=Zs.s0 f 1) (I:=fun (s:Int) => ∃ k:Nat,s = k∧p≤k∧k≤f.Odd.length∧∀ (j:Nat) (g:Granule),f.Odd[j]? = some g→p≤j→j < k→g.Ticks = []) (fun s => f.Odd.length - s.toNat)
   (fun r => (∃ (k:Nat) (g:Granule),r = .ret (g.Index,true)∧f.Odd[k]? = some g∧p≤k∧g.Ticks ≠ []∧∀ (j:Nat) (g':Granule),f.Odd[j]? = some g'→p≤j→j < k→g'.Ticks = [])∨(r = .go ()∧∀ (j:Nat) (g':Granule),f.Odd[j]? = some g'→p≤j→g'.Ticks = [])) (by
   rintro s ⟨k,rfl,hpk,hk,hn⟩;unfold Zs.s0
   by_cases hlt:k < f.Odd.length
   ·rw [ZT (show (k:Int) ≥ 0 by omega),ZT (show (k:Int) < f.Odd.length by omega),Y06,cond_true,at?_nat hlt,ZD (by omega)]
    simp only [Y0];have hget:=Y2 hlt
    by_cases hc:f.Odd[k].Ticks = []
    ·rw [hc];refine .inl ⟨(k:Int) + 1,rfl,⟨k + 1,by push_cast;rfl,by omega,hlt,fun j g hj hpj hjk => ?_⟩,by simp;omega⟩
     rcases YE j k with h | h
     ·exact hn j g hj hpj h
     ·have:j = k:=by omega
      subst this;rw [hget] at hj;cases hj;exact hc
    ·rw [ZT (show ((f.Odd[k].Ticks.length:Int) > 0) by have:=List.length_pos_iff.2 hc;omega),cond_true]
     exact .inr ⟨_,rfl,.inl ⟨k,_,rfl,hget,hpk,hc,hn⟩⟩
   ·rw [Za (show ¬ (k:Int) < f.Odd.length by omega),Bool.and_false,cond_false]
    refine .inr ⟨_,rfl,.inr ⟨rfl,fun j g hj hpj => hn j g hj hpj ?_⟩⟩
    have:=(List.getElem?_eq_some_iff.1 hj).1;omega) (p:Int) ⟨p,rfl,YB _,h1,fun j g _ h h' => by omega⟩
  rw [hr];simp only [Y0]
  rcases hpost with ⟨k,g,rfl,hk,hpk,hne,hn⟩ | ⟨rfl,hn⟩
  ·have hset:=Z18 hs.inc (Y6 hk)
   have hgi:¬ g.Index < i:=fun h => by have:=(h2 k g hk).2 h;omega
   refine ⟨_,rfl,.inl ⟨rfl,by simp only;omega,(hs.odd g (Y6 hk)).2,by simp only;rw [hset];exact hne,fun j hij hjg => ?_⟩⟩
   simp only at hjg
   by_cases ho:Z3P f j
   ·obtain ⟨k',g',hk',rfl,hiff⟩:=odd_split hs h2 ho
    rw [Z18 hs.inc (Y6 hk')];refine hn k' g' hk' ?_ ?_
    ·rcases YE k' p with h | h
     ·have:=hiff.1 h;omega
     ·exact h
    ·rcases YE k' k with h | h
     ·exact h
     ·rcases YE k k' with h' | h'
      ·have:=hs.inc k k' g g' h' hk hk';omega
      ·have:k = k':=by omega
       subst this;rw [hk] at hk';cases hk';omega
   ·exact Z77 hs hbare ho
  ·refine ⟨_,rfl,.inr ⟨rfl,rfl,fun j hij _ => ?_⟩⟩
   by_cases ho:Z3P f j
   ·obtain ⟨k',g',hk',rfl,hiff⟩:=odd_split hs h2 ho
    rw [Z18 hs.inc (Y6 hk')];refine hn k' g' hk' ?_
    rcases YE k' p with h | h
    ·have:=hiff.1 h;omega
    ·exact h
   ·exact Z77 hs hbare ho
 | false =>
  rw [cond_false];obtain ⟨r,hr,hpost⟩:=Z0D (step:=Zs.s1 f 1) (I:=fun (s:Int) => i≤s∧s≤1099511627777∧∀ k,i≤k→k < s→ZL f k = []) (fun s => (1099511627777 - s).toNat)
   (fun r => (∃ j,r = .ret (j,true)∧i≤j∧ZF j∧ZL f j ≠ []∧∀ k,i≤k→k < j→ZL f k = [])∨(r = .go ()∧∀ k,i≤k→ZF k→ZL f k = [])) (by
   rintro s ⟨hs1,hs2,hn⟩;unfold Zs.s1;rw [Z76]
   by_cases ht:ZF s
   ·rw [ZT ht,cond_true,Z9u hl hs (Z1H ht),ZD (by unfold ZF at ht;omega)]
    simp only [Y0]
    by_cases hc:ZL f s = []
    ·rw [hc];refine .inl ⟨s + 1,by simp,⟨by omega,by unfold ZF at ht;omega,fun k hk hks => ?_⟩,by unfold ZF at ht;omega⟩
     by_cases h:k = s
     ·rw [h];exact hc
     ·exact hn k hk (by omega)
    ·rw [ZT hc,cond_true];exact .inr ⟨_,rfl,.inl ⟨s,rfl,hs1,ht,hc,hn⟩⟩
   ·rw [Za ht,cond_false];exact .inr ⟨_,rfl,.inr ⟨rfl,fun k hk htk => hn k hk (by unfold ZF at ht htk;omega)⟩⟩) i ⟨Y0P _,by omega,fun k h h' => by omega⟩
  rw [hr];simp only [Y0]
  rcases hpost with ⟨j,rfl,h1,h2,h3,h4⟩ | ⟨rfl,hn⟩
  ·exact ⟨_,rfl,.inl ⟨rfl,h1,h2,h3,h4⟩⟩
  ·exact ⟨_,rfl,.inr ⟨rfl,rfl,hn⟩⟩
theorem ZCR {f:Form} (hl:Lim f) (hs:Shape f) {i:Int} (hi : -1099511627776≤i∧i≤1099511627776):∃ r,Zs f i (-1) = some r∧DownTo f i r:=by
 have hi64:In64 i:=by unfold In64;omega
 obtain ⟨b,hb,hbb⟩:=Z6x hl
 have holen:=Z2n (b:=31) hl.odd
 unfold Zs
 rw [hb]
 simp only [Y0]
 cases b with
 | true =>
  have hbare:=hbb.1 rfl
  rw [cond_true];obtain ⟨p,h1,h2,h3⟩:=Z64 hl hs.inc i
  rw [h3]
  -- the number of exceptions up to the index
  obtain ⟨q,hq1,hq2,hq3⟩ : ∃ q:Nat,q≤f.Odd.length∧(∀ (k:Nat) (g:Granule),f.Odd[k]? = some g→(k < q ↔ g.Index≤i))∧((bif (decide ((-1:Int) < 0) && !decide (∃ g,f.Odd[p]? = some g∧g.Index = i)) then some (w64 ((p:Int) - 1)) else some (p:Int)):Option Int) = some ((q:Int) - 1):=by
   by_cases he:∃ g,f.Odd[p]? = some g∧g.Index = i
   ·obtain ⟨g,hg,hgi⟩:=he
    have hpl:=(List.getElem?_eq_some_iff.1 hg).1
    refine ⟨p + 1,by omega,fun k g' hk => ?_,by rw [ZT (p:=∃ g,f.Odd[p]? = some g∧g.Index = i) ⟨g,hg,hgi⟩];simp⟩
    have:=h2 k g' hk
    constructor
    ·intro h
     rcases YE k p with h' | h'
     ·have:=this.1 h';omega
     ·have:k = p:=by omega
      subst this;rw [hg] at hk;cases hk;omega
    ·intro h
     rcases YE p k with h' | h'
     ·have:=hs.inc p k g g' h' hg hk;omega
     ·omega
   ·refine ⟨p,h1,fun k g' hk => ?_,by rw [Za (p:=∃ g,f.Odd[p]? = some g∧g.Index = i) he,ZD (by omega)];simp⟩
    have:=h2 k g' hk
    constructor
    ·intro h;have:=this.1 h;omega
    ·intro h
     by_cases hgi:g'.Index = i
     ·exfalso
      have hkp:¬ k < p:=fun h' => by have:=this.1 h';omega
      rcases YE p k with h' | h'
      ·have hpl:p < f.Odd.length:=by have:=(List.getElem?_eq_some_iff.1 hk).1;omega
       have h5:=hs.inc p k _ g' h' (Y2 hpl) hk
       have h6:=(h2 p _ (Y2 hpl)).2 (by omega)
       omega
      ·have:k = p:=by omega
       subst this;exact he ⟨g',hk,hgi⟩
     ·exact this.2 (by omega)
  simp only [Y0];rw [hq3];simp only [Y0];obtain ⟨r,hr,hpost⟩:=Z0D (step:=Zs.s0 f (-1)) (I:=fun (s:Int) => ∃ k:Nat,s = (k:Int) - 1∧k≤q∧∀ (j:Nat) (g:Granule),f.Odd[j]? = some g→k≤j→j < q→g.Ticks = []) (fun s => (s + 1).toNat)
   (fun r => (∃ (k:Nat) (g:Granule),r = .ret (g.Index,true)∧f.Odd[k]? = some g∧k < q∧g.Ticks ≠ []∧∀ (j:Nat) (g':Granule),f.Odd[j]? = some g'→k < j→j < q→g'.Ticks = [])∨(r = .go ()∧∀ (j:Nat) (g':Granule),f.Odd[j]? = some g'→j < q→g'.Ticks = [])) (by
   rintro s ⟨k,rfl,hk,hn⟩;unfold Zs.s0
   by_cases h0:0 < k
   ·have hlt:k - 1 < f.Odd.length:=by omega
    rw [ZT (show (k:Int) - 1 ≥ 0 by omega),ZT (show (k:Int) - 1 < f.Odd.length by omega),Y06,cond_true,show (k:Int) - 1 = ((k - 1:Nat):Int) by omega,at?_nat hlt,ZD (by omega)]
    simp only [Y0];have hget:=Y2 hlt
    by_cases hc:f.Odd[k - 1].Ticks = []
    ·rw [hc];refine .inl ⟨((k - 1:Nat):Int) + -1,rfl,⟨k - 1,by omega,by omega,fun j g hj hpj hjk => ?_⟩,by simp;omega⟩
     rcases YE j k with h | h
     ·have:j = k - 1:=by omega
      subst this;rw [hget] at hj;cases hj;exact hc
     ·exact hn j g hj h hjk
    ·rw [ZT (show ((f.Odd[k - 1].Ticks.length:Int) > 0) by have:=List.length_pos_iff.2 hc;omega),cond_true]
     exact .inr ⟨_,rfl,.inl ⟨k - 1,_,rfl,hget,by omega,hc,fun j g hj h1 h2 => hn j g hj (by omega) h2⟩⟩
   ·rw [Za (show ¬ (k:Int) - 1 ≥ 0 by omega),Y0V,cond_false]
    exact .inr ⟨_,rfl,.inr ⟨rfl,fun j g hj hjq => hn j g hj (by omega) hjq⟩⟩) ((q:Int) - 1) ⟨q,rfl,YB _,fun j g _ h h' => by omega⟩
  rw [hr];simp only [Y0]
  rcases hpost with ⟨k,g,rfl,hk,hkq,hne,hn⟩ | ⟨rfl,hn⟩
  ·have hset:=Z18 hs.inc (Y6 hk)
   have hgi:=(hq2 k g hk).1 hkq
   refine ⟨_,rfl,.inl ⟨rfl,hgi,(hs.odd g (Y6 hk)).2,by simp only;rw [hset];exact hne,fun j hij hjg => ?_⟩⟩
   simp only at hjg
   by_cases ho:Z3P f j
   ·obtain ⟨g',hg',rfl⟩:=ho
    obtain ⟨k',hk'⟩:=YC hg'
    rw [Z18 hs.inc hg'];refine hn k' g' hk' ?_ ((hq2 k' g' hk').2 hij)
    rcases YE k k' with h | h
    ·exact h
    ·rcases YE k' k with h' | h'
     ·have:=hs.inc k' k g' g h' hk' hk;omega
     ·have:k = k':=by omega
      subst this;rw [hk] at hk';cases hk';omega
   ·exact Z77 hs hbare ho
  ·refine ⟨_,rfl,.inr ⟨rfl,rfl,fun j hij _ => ?_⟩⟩
   by_cases ho:Z3P f j
   ·obtain ⟨g',hg',rfl⟩:=ho
    obtain ⟨k',hk'⟩:=YC hg'
    rw [Z18 hs.inc hg'];exact hn k' g' hk' ((hq2 k' g' hk').2 hij)
   ·exact Z77 hs hbare ho
 | false =>
  rw [cond_false];obtain ⟨r,hr,hpost⟩:=Z0D (step:=Zs.s1 f (-1)) (I:=fun (s:Int) => s≤i∧-1099511627777≤s∧∀ k,k≤i→s < k→ZL f k = []) (fun s => (s + 1099511627777).toNat)
   (fun r => (∃ j,r = .ret (j,true)∧j≤i∧ZF j∧ZL f j ≠ []∧∀ k,k≤i→j < k→ZL f k = [])∨(r = .go ()∧∀ k,k≤i→ZF k→ZL f k = [])) (by
   rintro s ⟨hs1,hs2,hn⟩;unfold Zs.s1;rw [Z76]
   by_cases ht:ZF s
   ·rw [ZT ht,cond_true,Z9u hl hs (Z1H ht),ZD (by unfold ZF at ht;omega)]
    simp only [Y0]
    by_cases hc:ZL f s = []
    ·rw [hc];refine .inl ⟨s + -1,by simp,⟨by omega,by unfold ZF at ht;omega,fun k hk hks => ?_⟩,by unfold ZF at ht;omega⟩
     by_cases h:k = s
     ·rw [h];exact hc
     ·exact hn k hk (by omega)
    ·rw [ZT hc,cond_true];exact .inr ⟨_,rfl,.inl ⟨s,rfl,hs1,ht,hc,hn⟩⟩
   ·rw [Za ht,cond_false];exact .inr ⟨_,rfl,.inr ⟨rfl,fun k hk htk => hn k hk (by unfold ZF at ht htk;omega)⟩⟩) i ⟨Y0P _,by omega,fun k h h' => by omega⟩
  rw [hr];simp only [Y0]
  rcases hpost with ⟨j,rfl,h1,h2,h3,h4⟩ | ⟨rfl,hn⟩
  ·exact ⟨_,rfl,.inl ⟨rfl,h1,h2,h3,h4⟩⟩
  ·exact ⟨_,rfl,.inr ⟨rfl,rfl,hn⟩⟩
def Above (f:Form) (i:Int) (r:Int × Bool):Prop:=(r.2 = true∧i < r.1∧ZF r.1∧ZL f r.1 ≠ []∧∀ k,i < k→k < r.1→ZF k→ZL f k = [])∨(r.2 = false∧r.1 = 0∧∀ k,i < k→ZF k→ZL f k = [])
def Under (f:Form) (i:Int) (r:Int × Bool):Prop:=(r.2 = true∧r.1 < i∧ZF r.1∧ZL f r.1 ≠ []∧∀ k,k < i→r.1 < k→ZF k→ZL f k = [])∨(r.2 = false∧r.1 = 0∧∀ k,k < i→ZF k→ZL f k = [])
theorem Z31 {f:Form} (hl:Lim f) (hs:Shape f) {i:Int} (hi:In64 i):∃ r,Z0s f i = some r∧Above f i r:=by
 unfold Z0s
 by_cases h:i ≥ 1099511627776
 ·rw [ZT h,cond_true];exact ⟨_,rfl,.inr ⟨rfl,rfl,fun k hk ht => by unfold ZF at ht;omega⟩⟩
 ·rw [Za h,cond_false,ZD (by unfold In64 at hi;omega)]
  have hm:iMax (i + 1) (-1099511627776) = max (i + 1) (-1099511627776):=by unfold iMax;omega
  rw [hm];obtain ⟨r,h1,h2⟩:=gran_step_up hl hs (i:=max (i + 1) (-1099511627776)) (by omega)
  rw [h1];refine ⟨r,rfl,?_⟩
  rcases h2 with ⟨a,b,c,d,e⟩ | ⟨a,b,e⟩
  ·exact .inl ⟨a,by omega,c,d,fun k hk hkr ht => e k (by unfold ZF at ht;omega) hkr⟩
  ·exact .inr ⟨a,b,fun k hk ht => e k (by have:=ht;unfold ZF at this;omega) ht⟩
theorem Z5V {f:Form} (hl:Lim f) (hs:Shape f) {i:Int} (hi:In64 i):∃ r,Z1X f i = some r∧Under f i r:=by
 unfold Z1X
 by_cases h:i≤-1099511627776
 ·rw [ZT h,cond_true];exact ⟨_,rfl,.inr ⟨rfl,rfl,fun k hk ht => by unfold ZF at ht;omega⟩⟩
 ·rw [Za h,cond_false,ZD (by unfold In64 at hi;omega)]
  have hm:iMin (i - 1) 1099511627776 = min (i - 1) 1099511627776:=by unfold iMin;omega
  rw [hm];obtain ⟨r,h1,h2⟩:=ZCR hl hs (i:=min (i - 1) 1099511627776) (by omega)
  rw [h1];refine ⟨r,rfl,?_⟩
  rcases h2 with ⟨a,b,c,d,e⟩ | ⟨a,b,e⟩
  ·exact .inl ⟨a,by omega,c,d,fun k hk hkr ht => e k (by unfold ZF at ht;omega) hkr⟩
  ·exact .inr ⟨a,b,fun k hk ht => e k (by have:=ht;unfold ZF at this;omega) ht⟩
end Go.Dn

namespace Go.Dn
open Go
def BesideR (f:Form) (i:Int) (lo hi:Int × Bool):Prop :=
 fits f i∧(lo.2 = true→fits f lo.1∧Z3b (ZL f lo.1) (ZL f i))∧(hi.2 = true→fits f hi.1∧Z3b (ZL f i) (ZL f hi.1))∧(lo.2 = true→hi.2 = true→Z3b (ZL f lo.1) (ZL f hi.1))
theorem aheadL_nil_l (b:List Span):Z3b [] b:=by intro x hx;cases hx
theorem aheadL_nil_r (a:List Span):Z3b a []:=by intro x _ y hy;cases hy
theorem Z8P {f:Form} (hl:Lim f) (hs:Shape f) (i:Int):Len (ZL f i):=by
 by_cases ho:Z3P f i
 ·obtain ⟨g,hg,rfl⟩:=ho
  rw [Z18 hs.inc hg];exact (hl.ticks g hg).2.1
 ·by_cases h0:f.Count = 0
  ·rw [Z3D ho h0];unfold Len;simp
  ·rw [Z39 ho h0];unfold Len;rw [Yb];exact (hl.sets _ (Z0K hs h0 i).2).1
theorem Z7g {f:Form} (hs:Shape f) {i:Int} (hf:fits f i):RightL (ZL f i):=by
 by_cases ho:Z3P f i
 ·obtain ⟨g,hg,rfl⟩:=ho
  rw [Z18 hs.inc hg];exact (hs.odd g hg).1
 ·by_cases h0:f.Count = 0
  ·rw [Z3D ho h0];exact ⟨by simp,by simp⟩
  ·unfold fits at hf;rw [Z39 ho h0] at hf ⊢;exact (hs.core _ (Z0K hs h0 i).2).shift fun s hs' => hf (ZW (Z4u f i) s) (List.mem_map.2 ⟨s,hs',rfl⟩)
theorem near_l {c:Bool} {X S:List Span}:Z3b (if c = true then X else []) S ↔ (c = true→Z3b X S):=by
 cases c
 ·simp [aheadL_nil_l]
 ·simp
theorem near_r {c:Bool} {X S:List Span}:Z3b S (if c = true then X else []) ↔ (c = true→Z3b S X):=by
 cases c
 ·simp [aheadL_nil_r]
 ·simp
noncomputable def sideG (f:Form) (r:Int × Bool):Option (Jx (List Span) Bool) :=
 (bif r.2 then (Zy f r.1).bind fun x => (bif (x.2 != 0) then some (.ret false) else some (.go x.1)) else some (.go []))
open Classical in
theorem sideG_eq {f:Form} (hl:Lim f) (hs:Shape f) {r:Int × Bool} (ht:r.2 = true→ZF r.1):(r.2 = true∧¬ fits f r.1∧sideG f r = some (.ret false))∨((r.2 = true→fits f r.1)∧sideG f r = some (.go (if r.2 = true then ZL f r.1 else []))):=by
 obtain ⟨j,c⟩:=r
 unfold sideG
 cases c with
 | false => exact .inr ⟨by simp,by simp⟩
 | true =>
  simp only [cond_true];rw [Z3i hl hs (Z1H (ht rfl))]
  by_cases hfl:fits f j
  ·rw [if_pos ⟨ht rfl,hfl⟩];exact .inr ⟨fun _ => hfl,by simp⟩
  ·rw [if_neg (fun h => hfl h.2)];exact .inl ⟨trivial,hfl,rfl⟩
open Classical in
theorem ZCQ {f:Form} (hl:Lim f) (hs:Shape f) {i:Int} (hi:ZF i) {lo hi':Int × Bool} (hlo:Z1X f i = some lo) (hhi:Z0s f i = some hi') (tlo:lo.2 = true→ZF lo.1) (thi:hi'.2 = true→ZF hi'.1) :
  ∃ b,Z1m f i = some b∧(b = true ↔ BesideR f i lo hi'):=by
 have e:Z1m f i = (Zy f i).bind fun x1 => (bif (x1.2 != 0) then some false else (sideG f lo).bind fun y1 => y1.elim (fun r' => some r') fun a2 => (sideG f hi').bind fun y2 => y2.elim (fun r' => some r') fun a4 =>
   (Z0Y a2 x1.1).bind fun x6 => ((bif x6 then (Z0Y x1.1 a4).bind fun x7 => some x7 else some false)).bind fun y3 => ((bif y3 then (Z0Y a2 a4).bind fun x8 => some x8 else some false)).bind fun y4 => some y4):=by
  unfold Z1m sideG;rw [hlo,hhi];simp only [Y0]
 rw [e,Z3i hl hs (Z1H hi)]
 clear e
 by_cases hf:fits f i
 ·rw [if_pos ⟨hi,hf⟩];simp only [Y0,bne_self_eq_false,cond_false]
  rcases sideG_eq hl hs tlo with ⟨h1,h2,h0⟩ | ⟨h1,h0⟩
  ·rw [h0];exact ⟨false,rfl,fun h => (by cases h),fun h => absurd (h.2.1 h1).1 h2⟩
  ·rw [h0];simp only [Y0,Jx.elim]
   rcases sideG_eq hl hs thi with ⟨h3,h4,h0'⟩ | ⟨h3,h0'⟩
   ·rw [h0'];exact ⟨false,rfl,fun h => (by cases h),fun h => absurd (h.2.2.1 h3).1 h4⟩
   ·rw [h0'];simp only [Y0];have lenA:Len (if lo.2 = true then ZL f lo.1 else []):=by
     by_cases hc:lo.2 = true
     ·rw [if_pos hc];exact Z8P hl hs _
     ·rw [if_neg hc];unfold Len;simp
    generalize hA:(if lo.2 = true then ZL f lo.1 else []) = A at lenA
    generalize hB:(if hi'.2 = true then ZL f hi'.1 else []) = B
    obtain ⟨r1,q1,p1⟩:=Z5Y (b:=ZL f i) lenA
    obtain ⟨r2,q2,p2⟩:=Z5Y (a:=ZL f i) (b:=B) (Z8P hl hs i)
    obtain ⟨r3,q3,p3⟩:=Z5Y (b:=B) lenA
    rw [q1,q2,q3];subst hA hB;rw [near_l] at p1;rw [near_r] at p2;rw [near_l,near_r] at p3;refine ⟨r1 && r2 && r3,by cases r1 <;> cases r2 <;> rfl,?_⟩
    rw [Y8,Y8,p1,p2,p3]
    constructor
    ·rintro ⟨⟨a,b⟩,c⟩;exact ⟨hf,fun h => ⟨h1 h,a h⟩,fun h => ⟨h3 h,b h⟩,c⟩
    ·rintro ⟨_,a,b,c⟩;exact ⟨⟨fun h => (a h).2,fun h => (b h).2⟩,c⟩
 ·rw [if_neg (fun h => hf h.2)]
  exact ⟨false,rfl,fun h => (by cases h),fun h => absurd h.1 hf⟩
def Beside (f:Form) (i:Int):Prop:=∀ lo hi,Under f i lo→Above f i hi→BesideR f i lo hi
theorem Under.uniq {f:Form} {i:Int} {r r':Int × Bool} (h:Under f i r) (h':Under f i r'):r = r':=by
 obtain ⟨a,b⟩:=r
 obtain ⟨a',b'⟩:=r'
 rcases h with ⟨rfl,h1,h2,h3,h4⟩ | ⟨rfl,rfl,h4⟩ <;> rcases h' with ⟨rfl,k1,k2,k3,k4⟩ | ⟨rfl,rfl,k4⟩
 ·simp only at *
  rcases Int.lt_trichotomy a a' with h | h | h
  ·exact absurd (h4 a' k1 h k2) k3
  ·rw [h]
  ·exact absurd (k4 a h1 h h2) h3
 ·exact absurd (k4 a h1 h2) h3
 ·exact absurd (h4 a' k1 k2) k3
 ·rfl
theorem Above.uniq {f:Form} {i:Int} {r r':Int × Bool} (h:Above f i r) (h':Above f i r'):r = r':=by
 obtain ⟨a,b⟩:=r
 obtain ⟨a',b'⟩:=r'
 rcases h with ⟨rfl,h1,h2,h3,h4⟩ | ⟨rfl,rfl,h4⟩ <;> rcases h' with ⟨rfl,k1,k2,k3,k4⟩ | ⟨rfl,rfl,k4⟩
 ·simp only at *
  rcases Int.lt_trichotomy a a' with h | h | h
  ·exact absurd (k4 a h1 h h2) h3
  ·rw [h]
  ·exact absurd (h4 a' k1 h k2) k3
 ·exact absurd (k4 a h1 h2) h3
 ·exact absurd (h4 a' k1 k2) k3
 ·rfl
theorem ZBa {f:Form} (hl:Lim f) (hs:Shape f) {i:Int} (hi:ZF i):∃ b,Z1m f i = some b∧(b = true ↔ Beside f i):=by
 obtain ⟨lo,h1,h2⟩:=Z5V hl hs (Z1H hi)
 obtain ⟨hi',h3,h4⟩:=Z31 hl hs (Z1H hi)
 obtain ⟨b,h5,h6⟩:=ZCQ hl hs hi h1 h3 (fun h => by rcases h2 with ⟨_,_,h,_⟩ | ⟨h',_⟩ <;> simp_all) (fun h => by rcases h4 with ⟨_,_,h,_⟩ | ⟨h',_⟩ <;> simp_all)
 refine ⟨b,h5,h6.trans ⟨fun h lo' hi'' q1 q2 => ?_,fun h => h lo hi' h2 h4⟩⟩
 rw [q1.uniq h2,q2.uniq h4];exact h
def Z5U (f:Form):Nat:=(f.Core.map List.length).sum + (f.Odd.map (·.Ticks.length)).sum
theorem sum_take {α:Type} (g:α→Nat) {l:List α} {k:Nat} (h:k < l.length):((l.take (k + 1)).map g).sum = ((l.take k).map g).sum + g l[k]:=by
 rw [Y0Q h,Yw,List.sum_append];simp
theorem ZA7 {f:Form} (hl:Lim f) (hc:f.Core.length≤6000) (ho:f.Odd.length≤6000):Z03 f = some (Z5U f:Int):=by
 have hr:=Z0e
 have lenC:∀ l ∈ f.Core,l.length≤8796093022207:=fun l hm => by have:=(hl.sets l hm).1;unfold Len at this;omega
 have lenO:∀ g ∈ f.Odd,g.Ticks.length≤8796093022207:=fun l hm => by have:=(hl.ticks l hm).2.1;unfold Len at this;omega
 obtain ⟨a,h1,h2,h3⟩:=fold_loop (l:=f.Core) (step:=Z03.s0 f) (f:=fun a _ x => a + (x.length:Int)) (fin:=id) (a0:=(0:Int)) (fun k a => a = ((((f.Core.take k).map List.length).sum:Nat):Int)∧a≤k * 8796093022207) ⟨by simp,by simp⟩ (fun k x a hk ⟨ha,hb⟩ => by
   obtain ⟨q1,q2⟩:=ZAu hk
   have hx:=lenC x (Y6 hk)
   have hkl:k < f.Core.length:=by omega
   have h0:0≤a:=by rw [ha];omega
   unfold Z03.s0;simp only;rw [ZT q2,cond_true,q1,ZD (x:=(k:Int) + 1) (by omega)]
   simp only [Y0];rw [ZD (x:=a + (x.length:Int)) (by omega)]
   refine ⟨rfl,?_,by push_cast;omega⟩
   rw [sum_take _ hkl];rw [Y2 hkl] at hk;cases hk;rw [ha];push_cast;rfl) (fun a _ => by unfold Z03.s0;simp only;rw [Za (by omega)];rfl)
 rw [Y0F] at h2
 obtain ⟨b,h4,h5,h6⟩:=fold_loop (l:=f.Odd) (step:=Z03.s1 f) (f:=fun a _ x => a + (x.Ticks.length:Int)) (fin:=id) (a0:=a) (fun k b => b = a + ((((f.Odd.take k).map (·.Ticks.length)).sum:Nat):Int)∧b≤a + k * 8796093022207) ⟨by simp,by simp⟩ (fun k x b hk ⟨ha,hb⟩ => by
   obtain ⟨q1,q2⟩:=ZAu hk
   have hx:=lenO x (Y6 hk)
   have hkl:k < f.Odd.length:=by omega
   have h0:0≤b:=by rw [ha,h2];omega
   unfold Z03.s1;simp only;rw [ZT q2,cond_true,q1,ZD (x:=(k:Int) + 1) (by omega)]
   simp only [Y0];rw [ZD (x:=b + (x.Ticks.length:Int)) (by omega)]
   refine ⟨rfl,?_,by push_cast;omega⟩
   rw [sum_take _ hkl];rw [Y2 hkl] at hk;cases hk;rw [ha];push_cast;omega) (fun a _ => by unfold Z03.s1;simp only;rw [Za (by omega)];rfl)
 rw [Y0F] at h5
 unfold Z03
 rw [h1]
 simp only [Y0,id]
 rw [h4]
 simp only [Y0,id,h5,h2,Z5U]
 push_cast;rfl
structure RightF (f:Form):Prop where
 shape:Shape f
 turns:Turns f
 beside:∀ g ∈ f.Odd,Beside f g.Index
def Z5x (f:Form):Prop:=6000 < f.Core.length∨6000 < f.Odd.length∨60000 < Z5U f
theorem Z6Q {f:Form} (hl:Lim f):(Z5x f∧Z00 f = some 3)∨(¬ Z5x f∧RightF f∧Z00 f = some 0)∨(¬ Z5x f∧¬ RightF f∧Z00 f = some 50):=by
 have holen:=Z2n (b:=31) hl.odd
 unfold Z00
 by_cases h1:6000 < f.Core.length∨6000 < f.Odd.length
 ·have e:(decide ((f.Core.length:Int) > 6000) || decide ((f.Odd.length:Int) > 6000)) = true:=by
   rcases h1 with h | h
   ·rw [ZT (show (f.Core.length:Int) > 6000 by omega)];rfl
   ·rw [ZT (show (f.Odd.length:Int) > 6000 by omega)];simp
  rw [e];exact .inl ⟨h1.elim .inl (fun h => .inr (.inl h)),rfl⟩
 ·have e:(decide ((f.Core.length:Int) > 6000) || decide ((f.Odd.length:Int) > 6000)) = false:=by
   rw [Za (show ¬ (f.Core.length:Int) > 6000 by omega),Za (show ¬ (f.Odd.length:Int) > 6000 by omega)];rfl
  rw [e,cond_false,ZA7 hl (by omega) (by omega)]
  simp only [Y0]
  by_cases h2:60000 < Z5U f
  ·rw [ZT (show (Z5U f:Int) > 60000 by omega)]
   exact .inl ⟨.inr (.inr h2),rfl⟩
  ·have hnl:¬ Z5x f:=by unfold Z5x;omega
   rw [Za (show ¬ (Z5U f:Int) > 60000 by omega),cond_false]
   obtain ⟨b,hb,hbs⟩:=gran_shape_eq hl
   rw [hb];simp only [Y0];refine .inr ?_;cases b with
   | false => exact .inr ⟨hnl,fun h => (by have:=hbs.2 h.shape;cases this),rfl⟩
   | true =>
    have hs:=hbs.1 rfl
    obtain ⟨c,hc,hct⟩:=gran_turns_eq hl hs
    rw [hc];simp only [Y0,Yd,cond_false];cases c with
    | false => exact .inr ⟨hnl,fun h => (by have:=hct.2 h.turns;cases this),rfl⟩
    | true =>
     simp only [Yd,cond_false]
     rcases Z4D (l:=f.Odd) (step:=Z00.s0 f) (fun _ g => Beside f g.Index) (no:=.ret 50) (yes:=.go ()) (fun k g hk _ => by
       obtain ⟨q1,q2⟩:=ZAu hk
       obtain ⟨b,hb,hbb⟩:=ZBa hl hs (hs.odd g (Y6 hk)).2
       unfold Z00.s0;rw [ZT q2,cond_true,q1,ZD (by omega)]
       simp only [Y0,hb];cases b
       ·exact .inr ⟨rfl,fun h => by have:=hbb.2 h;cases this⟩
       ·exact .inl ⟨rfl,hbb.1 rfl⟩) (by unfold Z00.s0;rw [Za (by omega)];rfl) with ⟨q1,q2⟩ | ⟨q1,q2⟩
     ·rw [q1];exact .inl ⟨hnl,⟨hs,hct.1 rfl,fun g hg => by obtain ⟨k,hk⟩:=YC hg;exact q2 k g hk⟩,rfl⟩
     ·rw [q1];exact .inr ⟨hnl,fun h => q2 fun k g hk => h.beside g (Y6 hk),rfl⟩
def Z6M (f:Form):Prop:=f.Core.length≤12∧f.Odd.length≤8∧Z5U f≤60
theorem Z8X {f:Form} (hl:Lim f):∃ b,Z0r f = some b∧(b = true ↔ Z6M f):=by
 unfold Z0r
 by_cases h:f.Core.length≤12∧f.Odd.length≤8
 ·rw [ZT (show (f.Core.length:Int)≤12 by omega),ZT (show (f.Odd.length:Int)≤8 by omega),ZA7 hl (by omega) (by omega)]
  refine ⟨decide ((Z5U f:Int)≤60),rfl,?_⟩;rw [decide_eq_true_iff];exact ⟨fun h' => ⟨h.1,h.2,by omega⟩,fun h' => by have:=h'.2.2;omega⟩
 ·have e:(decide ((f.Core.length:Int)≤12) && decide ((f.Odd.length:Int)≤8)) = false:=by
   by_cases h1:f.Core.length≤12
   ·rw [Za (show ¬ (f.Odd.length:Int)≤8 by omega)];simp
   ·rw [Za (show ¬ (f.Core.length:Int)≤12 by omega)];rfl
  rw [e];exact ⟨false,rfl,fun h => (by cases h),fun h' => absurd ⟨h'.1,h'.2.1⟩ h⟩
end Go.Dn

namespace Go.Dn
open Go
theorem Z3S {f:Form} {l:List Span}:l ∈ full f ↔ l ∈ f.Core∧l ≠ []:=by
 unfold full
 rw [List.mem_filter,decide_eq_true_iff,gt_iff_lt,List.length_pos_iff]
theorem full_pair {f:Form} (hs:Shape f) (ht:Turns f):(full f).Pairwise (fun a b => lstT a < fstT b):=by
 have hm:∀ x ∈ full f,fstT x≤lstT x:=fun x hx => Z5T (hs.core x (Z3S.1 hx).1) (Z3S.1 hx).2
 have h1:=ht.1
 generalize full f = l at hm h1
 induction l with
 | nil => exact .nil
 | cons x l ih =>
  have ih:=ih (fun y hy => hm y (YI _ hy)) (fun k a b ha hb => h1 (k + 1) a b ha hb)
  refine List.pairwise_cons.2 ⟨fun y hy => ?_,ih⟩
  cases l with
  | nil => cases hy
  | cons z l =>
   have hxz:=h1 0 x z rfl rfl
   rcases List.mem_cons.1 hy with rfl | hy
   ·exact hxz
   ·have:=(List.pairwise_cons.1 ih).1 y hy
    have:=hm z (by simp)
    omega
theorem core_pair {f:Form} (hs:Shape f) (ht:Turns f) {j k:Nat} {a b:List Span} (hjk:j < k) (ha:f.Core[j]? = some a) (hb:f.Core[k]? = some b) (na:a ≠ []) (nb:b ≠ []):lstT a < fstT b:=by
 have h:=full_pair hs ht
 unfold full at h
 rw [List.pairwise_filter] at h
 have hj:=(List.getElem?_eq_some_iff.1 ha)
 have hk:=(List.getElem?_eq_some_iff.1 hb)
 obtain ⟨hj,rfl⟩:=hj
 obtain ⟨hk,rfl⟩:=hk
 exact List.pairwise_iff_getElem.1 h j k hj hk hjk (by rw [decide_eq_true_iff];exact List.length_pos_iff.2 na) (by rw [decide_eq_true_iff];exact List.length_pos_iff.2 nb)
theorem core_turn {f:Form} (hs:Shape f) (ht:Turns f) {a b:List Span} (ha:a ∈ f.Core) (hb:b ∈ f.Core) (na:a ≠ []) (nb:b ≠ []):lstT a < fstT b + f.Period:=by
 have hA:=Z3S.2 ⟨ha,na⟩
 have hB:=Z3S.2 ⟨hb,nb⟩
 have hm:∀ x ∈ full f,fstT x≤lstT x:=fun x hx => Z5T (hs.core x (Z3S.1 hx).1) (Z3S.1 hx).2
 have hn:full f ≠ []:=List.ne_nil_of_mem hA
 have hlast:=Y00 hn
 have hhead:=Y04 hn
 have h2:=ht.2 _ _ hlast hhead
 have hp:=full_pair hs ht
 have e1:lstT a≤lstT ((full f).getLast hn):=by
  obtain ⟨j,hj⟩:=YC hA
  obtain ⟨hjl,hj⟩:=List.getElem?_eq_some_iff.1 hj
  by_cases hc:j = (full f).length - 1
  ·subst hc;rw [List.getLast_eq_getElem,hj];exact Y0P _
  ·have:=List.pairwise_iff_getElem.1 hp j ((full f).length - 1) hjl (by omega) (by omega)
   rw [hj] at this;have h5:=hm _ (List.getLast_mem hn)
   rw [List.getLast_eq_getElem] at h5 ⊢;omega
 have e2:fstT ((full f).head hn)≤fstT b:=by
  obtain ⟨j,hj⟩:=YC hB
  obtain ⟨hjl,hj⟩:=List.getElem?_eq_some_iff.1 hj
  have hh:(full f).head hn = (full f)[0]'(by omega):=List.head_eq_getElem hn
  by_cases hc:j = 0
  ·subst hc;rw [hh,hj];exact Y0P _
  ·have:=List.pairwise_iff_getElem.1 hp 0 j (by omega) hjl (by omega)
   rw [hj,← hh] at this;have h5:=hm _ (List.head_mem hn)
   omega
 omega
theorem ZCg {f:Form} (hs:Shape f) (h0:f.Count ≠ 0) (i:Int):f.Core[(i % f.Count).toNat]? = some (Z0G f i):=by
 have:=(Z0K hs h0 i).1
 unfold at? at this
 rwa [if_pos (Yk i h0)] at this
theorem ZCf {f:Form} (hs:Shape f) (ht:Turns f) (h0:f.Count ≠ 0) {i k:Int} (hik:i < k) (ni:Z0G f i ≠ []) (nk:Z0G f k ≠ []):lstT (Z0G f i) + Z4u f i < fstT (Z0G f k) + Z4u f k:=by
 have hp:=Z9v hs h0
 have di:=Y02 i f.Count
 have dk:=Y02 k f.Count
 have mi:=Yk i h0
 have mk:=Yk k h0
 have li:=Yq i hp
 have lk:=Yq k hp
 have hq:i / f.Count≤k / f.Count:=Int.ediv_le_ediv hp (by omega)
 unfold Z4u
 rcases Int.lt_or_eq_of_le hq with h | h
 ·have h1:=core_turn hs ht (Z0K hs h0 i).2 (Z0K hs h0 k).2 ni nk
  have h2:(i / f.Count + 1) * f.Period≤k / f.Count * f.Period:=YZ (by omega) hs.per.1
  rw [Y0Z,Int.one_mul] at h2;omega
 ·rw [h] at di ⊢;have:i % f.Count < k % f.Count:=by omega
  have h1:=core_pair hs ht (j:=(i % f.Count).toNat) (k:=(k % f.Count).toNat) (by omega) (ZCg hs h0 i) (ZCg hs h0 k) ni nk
  omega
theorem Z3O {l:List Span} (d:Int) (hn:l ≠ []):lstT (l.map (ZW d)) = lstT l + d∧fstT (l.map (ZW d)) = fstT l + d:=by
 unfold lstT fstT
 rw [List.getLast?_map,List.head?_map,Y00 hn,Y04 hn]
 exact ⟨rfl,rfl⟩
theorem under_some {f:Form} (hl:Lim f) (hs:Shape f) {i k:Int} (hk:In64 k) (hik:i < k) (ti:ZF i) (ni:ZL f i ≠ []):∃ j,Under f k (j,true)∧i≤j:=by
 obtain ⟨r,_,h⟩:=Z5V hl hs hk
 obtain ⟨j,b⟩:=r
 have h':=h
 rcases h with ⟨rfl,h1,h2,h3,h4⟩ | ⟨rfl,_,h4⟩
 ·refine ⟨j,h',?_⟩;apply Classical.byContradiction;intro hc;exact ni (h4 i hik (by simp only;omega) ti)
 ·exact absurd (h4 i hik ti) ni
theorem above_some {f:Form} (hl:Lim f) (hs:Shape f) {i k:Int} (hk:In64 k) (hik:k < i) (ti:ZF i) (ni:ZL f i ≠ []):∃ j,Above f k (j,true)∧j≤i:=by
 obtain ⟨r,_,h⟩:=Z31 hl hs hk
 obtain ⟨j,b⟩:=r
 have h':=h
 rcases h with ⟨rfl,h1,h2,h3,h4⟩ | ⟨rfl,_,h4⟩
 ·refine ⟨j,h',?_⟩;apply Classical.byContradiction;intro hc;exact ni (h4 i hik (by simp only;omega) ti)
 ·exact absurd (h4 i hik ti) ni
theorem RightF.order {f:Form} (hl:Lim f) (hr:RightF f):∀ (n:Nat) (i k:Int),(k - i).toNat = n→i < k→ZF i→ZF k→fits f i→fits f k→ZL f i ≠ []→ZL f k ≠ []→lstT (ZL f i) < fstT (ZL f k):=by
 have hs:=hr.shape
 intro n
 induction n using Nat.strongRecOn with
 | _ n ih =>
  intro i k hn hik ti tk fi fk ni nk
  by_cases ok:Z3P f k
  ·obtain ⟨g,hg,rfl⟩:=ok
   obtain ⟨j,hj,hij⟩:=under_some hl hs (Z1H tk) hik ti ni
   obtain ⟨hi',_,hab⟩:=Z31 hl hs (Z1H tk)
   obtain ⟨_,hlo,_,_⟩:=hr.beside g hg _ _ hj hab
   obtain ⟨fj,aj⟩:=hlo rfl
   have hj2:=hj
   rcases hj2 with ⟨_,j1,j2,j3,j4⟩ | ⟨h,_⟩
   ·simp only at fj aj j1 j2 j3;have hjk:=(ZC0 j3 nk).1 aj
    by_cases hji:i = j
    ·rw [hji];exact hjk
    ·have h1:=ih (j - i).toNat (by omega) i j rfl (by omega) ti j2 fi fj ni j3
     have h2:=Z5T (Z7g hs fj) j3
     omega
   ·cases h
  ·by_cases oi:Z3P f i
   ·obtain ⟨g,hg,rfl⟩:=oi
    obtain ⟨j,hj,hij⟩:=above_some hl hs (Z1H ti) hik tk nk
    obtain ⟨lo',_,hun⟩:=Z5V hl hs (Z1H ti)
    obtain ⟨_,_,hhi,_⟩:=hr.beside g hg _ _ hun hj
    obtain ⟨fj,aj⟩:=hhi rfl
    have hj2:=hj
    rcases hj2 with ⟨_,j1,j2,j3,j4⟩ | ⟨h,_⟩
    ·simp only at fj aj j1 j2 j3;have hjk:=(ZC0 ni j3).1 aj
     by_cases hji:j = k
     ·rw [← hji];exact hjk
     ·have h1:=ih (k - j).toNat (by omega) j k rfl (by omega) j2 tk fj fk j3 nk
      have h2:=Z5T (Z7g hs fj) j3
      omega
    ·cases h
   ·have h0:f.Count ≠ 0:=fun h => ni (Z3D oi h)
    have ni':=fun h => ni ((Z2I oi h0).2 h)
    have nk':=fun h => nk ((Z2I ok h0).2 h)
    rw [Z39 oi h0,Z39 ok h0,(Z3O _ ni').1,(Z3O _ nk').2];exact ZCf hs hr.turns h0 hik ni' nk'
end Go.Dn

namespace Go.Dn
open Go
theorem Above.tick {f:Form} {i:Int} {r:Int × Bool} (h:Above f i r) (hr:r.2 = true):i < r.1∧ZF r.1∧ZL f r.1 ≠ []∧∀ k,i < k→k < r.1→ZF k→ZL f k = []:=by
 rcases h with ⟨_,h1,h2,h3,h4⟩ | ⟨h,_⟩
 ·exact ⟨h1,h2,h3,h4⟩
 ·rw [hr] at h;cases h
theorem Under.tick {f:Form} {i:Int} {r:Int × Bool} (h:Under f i r) (hr:r.2 = true):r.1 < i∧ZF r.1∧ZL f r.1 ≠ []∧∀ k,k < i→r.1 < k→ZF k→ZL f k = []:=by
 rcases h with ⟨_,h1,h2,h3,h4⟩ | ⟨h,_⟩
 ·exact ⟨h1,h2,h3,h4⟩
 ·rw [hr] at h;cases h
end Go.Dn

namespace Go.Dn
open Go
theorem eqf_loop {α β:Type} {a:List α} {b:List β} {step:Int→Option (Int ⊕ Jx Unit Bool)} {eq:α→β→Option Bool} (P:α→β→Prop)
  (hl:(a.length:Int) < 9223372036854775807) (hab:a.length = b.length)
  (heq:∀ (k:Nat) x y,a[k]? = some x→b[k]? = some y→∃ r,eq x y = some r∧(r = true ↔ P x y))
  (hstep:∀ s,step s = bif decide (s < (a.length:Int)) then (at? a s).bind fun x1 => (at? b s).bind fun x2 => (eq x1 x2).bind fun x3 => bif (!x3) then some (.inr (.ret false)) else some (.inl (w64 (s + 1))) else some (.inr (.go ()))) :
  (loopO step 0 = some (.go ())∧∀ (k:Nat) x y,a[k]? = some x→b[k]? = some y→P x y)∨(loopO step 0 = some (.ret false)∧¬ ∀ (k:Nat) x y,a[k]? = some x→b[k]? = some y→P x y):=by
 rcases Z4D (l:=a) (step:=step) (fun k x => ∀ y,b[k]? = some y→P x y) (no:=.ret false) (yes:=.go ()) (fun k x hk hp => by
  have hlt:=(List.getElem?_eq_some_iff.1 hk).1
  have hat:at? a (k:Int) = some x:=by rw [at?_nat hlt];rw [Y2 hlt] at hk;exact hk
  have hbt:at? b (k:Int) = some (b[k]'(by omega)):=at?_nat (by omega)
  have hbk:b[k]? = some (b[k]'(by omega)):=Y2 (by omega)
  obtain ⟨r,h1,h2⟩:=heq k x _ hk hbk
  rw [hstep,ZT (show (k:Int) < a.length by omega),cond_true,hat,hbt,ZD (show _ by omega)]
  simp only [Y0,h1];cases r with
  | true => exact .inl ⟨rfl,fun y hy => by rw [hbk] at hy;cases hy;exact h2.1 rfl⟩
  | false => exact .inr ⟨rfl,fun h => by have:=h2.2 (h _ hbk);cases this⟩) (by
  rw [hstep,Za (by omega)];rfl) with ⟨h1,h2⟩ | ⟨h1,h2⟩
 ·exact .inl ⟨h1,fun k x y hx hy => h2 k x hx y hy⟩
 ·exact .inr ⟨h1,fun h => h2 fun k x hx y hy => h k x y hx hy⟩
theorem ZBK {a b:List Span} {d:Int} (hl:a.length = b.length):(∀ (k:Nat) x y,a[k]? = some x→b[k]? = some y→y.From - x.From = d∧y.To - x.To = d) ↔ b = a.map (ZW d):=by
 constructor
 ·intro h;apply Y0k;intro k
  by_cases hk:k < a.length
  ·have h1:a[k]? = some a[k]:=Y2 hk
   have h2:b[k]? = some (b[k]'(by omega)):=Y2 (by omega)
   rw [h2,YN,h1];obtain ⟨q1,q2⟩:=h k _ _ h1 h2
   simp only [Y9,ZW,Y5];generalize b[k]'(by omega) = y at q1 q2 ⊢
   obtain ⟨y1,y2⟩:=y
   simp only at q1 q2;simp only [Span.mk.injEq];omega
  ·rw [Ya (by omega),Ya (by simp;omega)]
 ·rintro rfl k x y hx hy;rw [YN,hx] at hy;simp only [Y9,Y5] at hy;subst hy;simp only [ZW];omega
theorem ZAZ {a b:List Span} {d:Int} (ha:RightL a) (hb:RightL b) (hl:Len a):∃ r,Z1y a b d = some r∧(r = true ↔ b = a.map (ZW d)):=by
 have hl':(a.length:Int) < 9223372036854775807:=by have:=Z0e;unfold Len at hl;omega
 unfold Z1y ZA
 by_cases hlen:a.length = b.length
 ·rw [bne_f (by omega),cond_false]
  have tk:∀ {l:List Span},RightL l→∀ (k:Nat) s,l[k]? = some s→ZF s.From∧ZF s.To:=fun {l} h k s hs => by
   have:=Z7I.1 h k s hs
   unfold Z50 at this;exact ⟨this.1,this.2.1⟩
  rcases eqf_loop (a:=a) (b:=b) (step:=ZA.s0 a b (fun z0 z1 => some (Z1N z0 z1 d))) (eq:=fun z0 z1 => some (Z1N z0 z1 d)) (fun x y => y.From - x.From = d∧y.To - x.To = d) hl' hlen (fun k x y hx hy => by
   refine ⟨_,rfl,?_⟩;obtain ⟨x1,x2⟩:=tk ha k x hx
   obtain ⟨y1,y2⟩:=tk hb k y hy
   unfold ZF at x1 x2 y1 y2;unfold Z1N;rw [ZD (by omega),ZD (by omega)]
   simp) (fun s => rfl) with ⟨h1,h2⟩ | ⟨h1,h2⟩
  ·rw [h1];exact ⟨true,rfl,⟨fun _ => (ZBK hlen).1 h2,fun _ => rfl⟩⟩
  ·rw [h1];refine ⟨false,rfl,by simp only [YA,false_iff];exact fun h => h2 ((ZBK hlen).2 h)⟩
 ·rw [bne_t (by omega),cond_true]
  refine ⟨false,rfl,by simp only [YA,false_iff];rintro rfl;exact hlen (by simp)⟩
end Go.Dn

namespace Go.Dn
open Go
noncomputable def cs (f:Form) (i:Int):List Span:=(Z0G f i).map (ZW (Z4u f i))
theorem Z1W (l:List Span) (a b:Int):(l.map (ZW a)).map (ZW b) = l.map (ZW (a + b)):=by
 rw [List.map_map]
 congr 1
 funext s
 simp only [Function.comp,ZW,Span.mk.injEq]
 omega
theorem shift_inj {a b:List Span} {d:Int} (h:a.map (ZW d) = b.map (ZW d)):a = b:=by
 have:=congrArg (List.map (ZW (-d))) h
 rw [Z1W,Z1W,Int.add_right_neg,Z9B,Z9B] at this
 exact this
theorem Z8R {f:Form} (h0:f.Count ≠ 0) (i:Int):cs f (i + f.Count) = (cs f i).map (ZW f.Period):=by
 unfold cs Z0G Z4u
 rw [Z1W,Int.add_emod_right,Int.add_ediv_of_dvd_right (Int.dvd_refl _),Int.ediv_self h0,Y0Z,Int.one_mul]
theorem Z5j {f:Form} (h0:f.Count ≠ 0) (i k:Int):cs f (i + f.Count * k) = (cs f i).map (ZW (k * f.Period)):=by
 unfold cs Z0G Z4u
 rw [Z1W,Int.add_mul_emod_self_left,Int.add_mul_ediv_left _ _ h0,Y0Z]
theorem Z5u {f:Form} {i:Int} (h0:0≤i) (h1:i < f.Count):cs f i = f.Core.getD i.toNat []:=by
 unfold cs Z0G Z4u
 rw [Int.emod_eq_of_lt h0 h1,Int.ediv_eq_zero_of_lt h0 h1,Int.zero_mul,Z9B]
def TurnZ (f:Form) (d q:Int):Prop:=∀ i,cs f (i + d) = (cs f i).map (ZW q)
theorem turn_of {f:Form} (h0:0 < f.Count) {d q:Int} (h:∀ i,0≤i→i < f.Count→cs f (i + d) = (cs f i).map (ZW q)):TurnZ f d q:=by
 intro i
 have e:i = i % f.Count + f.Count * (i / f.Count):=(Y02 i f.Count).symm
 have h1:=h (i % f.Count) (Yk i (by omega)) (Yq i h0)
 have e2:i + d = (i % f.Count + d) + f.Count * (i / f.Count):=by omega
 rw [e2,Z5j (by omega),h1]
 conv => rhs;rw [e,Z5j (by omega)]
 rw [Z1W,Z1W,Int.add_comm]
def Z6b (f:Form) (d k:Int):Int:=if k + d ≥ f.Count then k + d - f.Count else k + d
def Z8B (f:Form) (d k:Int):Int:=if k + d ≥ f.Count then f.Period else 0
theorem wrap_cs {f:Form} {d k:Int} (hd:1≤d) (hdn:d≤f.Count) (h0:0≤k) (h1:k < f.Count):0≤Z6b f d k∧Z6b f d k < f.Count∧cs f (k + d) = (cs f (Z6b f d k)).map (ZW (Z8B f d k)):=by
 unfold Z6b Z8B
 by_cases h:k + d ≥ f.Count
 ·rw [if_pos h,if_pos h];refine ⟨by omega,by omega,?_⟩
  rw [← Z8R (by omega)]
  congr 1;omega
 ·rw [if_neg h,if_neg h,Z9B];exact ⟨by omega,by omega,rfl⟩
theorem canon_turn_eq {f:Form} (hl:Lim f) (hs:Shape f) {d q:Int} (hd:1≤d) (hdn:d≤f.Count) (hq:0≤q∧q≤1099511627776):∃ r,Z0n f d q = some r∧(r = true ↔ TurnZ f d q):=by
 have hcl:(f.Core.length:Int) < 4611686018427387904:=Z2n (b:=23) hl.core
 have hcnt:=hs.count
 have key:∀ k:Int,0≤k→k < f.Count→(cs f (Z6b f d k) = (cs f k).map (ZW (q - Z8B f d k)) ↔ cs f (k + d) = (cs f k).map (ZW q)):=fun k k0 k1 => by
  obtain ⟨_,_,h⟩:=wrap_cs hd hdn k0 k1
  rw [h]
  constructor
  ·intro e;rw [e,Z1W]
   congr 2;omega
  ·intro e;apply shift_inj (d:=Z8B f d k)
   rw [e,Z1W]
   congr 2;omega
 unfold Z0n
 rcases Z4D (l:=f.Core) (step:=Z0n.s0 f d q) (fun k x => cs f (Z6b f d k) = x.map (ZW (q - Z8B f d k))) (no:=.ret false) (yes:=.go ()) (fun k x hk hp => by
  have hlt:=(List.getElem?_eq_some_iff.1 hk).1
  have hat:at? f.Core (k:Int) = some x:=by rw [at?_nat hlt];rw [Y2 hlt] at hk;exact hk
  obtain ⟨w0,w1,_⟩:=wrap_cs (f:=f) (k:=(k:Int)) hd hdn (by omega) (by omega)
  have hx:=hs.core x (Y6 hk)
  have hlx:=(hl.sets x (Y6 hk)).1
  have hwl:(Z6b f d k).toNat < f.Core.length:=by omega
  have hgw:cs f (Z6b f d k) = f.Core[(Z6b f d k).toNat]:=by rw [Z5u w0 w1,YL,Y2 hwl];rfl
  have hy:=hs.core _ (YY hwl)
  have hat2:at? f.Core (Z6b f d k) = some f.Core[(Z6b f d k).toNat]:=at?_lt w0 (by omega)
  have hpk:(bif decide (w64 ((k:Int) + d) ≥ f.Count) then some (w64 (w64 ((k:Int) + d) - f.Count),f.Period) else some (w64 ((k:Int) + d),0)) = some (Z6b f d k,Z8B f d k):=by
   rw [ZD (show _ by omega)]
   unfold Z6b Z8B
   by_cases h:(k:Int) + d ≥ f.Count
   ·rw [ZT h,cond_true,if_pos h,if_pos h,ZD (show _ by omega)]
   ·rw [Za h,cond_false,if_neg h,if_neg h]
  obtain ⟨r,h1,h2⟩:=ZAZ (d:=q - Z8B f d k) hx hy hlx
  have hwp:0≤Z8B f d k∧Z8B f d k≤1099511627776:=by have:=hs.per;unfold Z8B;split <;> omega
  unfold Z0n.s0;rw [ZT (show (k:Int) < f.Core.length by omega),cond_true,hat]
  simp only [Y0,hpk,hat2];rw [ZD (show _ by omega),h1]
  simp only [Y0];rw [hgw];cases r with
  | true => exact .inl ⟨by simp only [Yd,cond_false,Y0,Jx.elim];rw [ZD (show _ by omega)],h2.1 rfl⟩
  | false => exact .inr ⟨rfl,fun h => by have:=h2.2 h;cases this⟩) (by
  unfold Z0n.s0;rw [Za (by omega)];rfl) with ⟨h1,h2⟩ | ⟨h1,h2⟩
 ·rw [h1];refine ⟨true,rfl,⟨fun _ => turn_of (by omega) fun i i0 i1 => ?_,fun _ => rfl⟩⟩
  have hlt:i.toNat < f.Core.length:=by omega
  have:=h2 i.toNat _ (Y2 hlt)
  rw [Y0J i0] at this;refine (key i i0 i1).1 ?_;rw [this,Z5u i0 i1,YL,Y2 hlt];rfl
 ·rw [h1];refine ⟨false,rfl,⟨(fun h => nomatch h),fun ht => absurd (fun k x hk => ?_) h2⟩⟩
  have hlt:=(List.getElem?_eq_some_iff.1 hk).1
  have:=(key k (by omega) (by omega)).2 (ht k)
  rw [this,Z5u (by omega) (by omega),YL,Y0i,hk];rfl
end Go.Dn

namespace Go.Dn
open Go
structure Good (f:Form) (d:Int):Prop where
 pos:1≤d
 dvd:d ∣ f.Count
 rest:f.Period % (f.Count / d) = 0
 turn:TurnZ f d (f.Period / (f.Count / d))
theorem good_self {f:Form} (h0:0 < f.Count):Good f f.Count:=by
 have e:f.Count / f.Count = 1:=Int.ediv_self (by omega)
 exact ⟨by omega,Int.dvd_refl _,by rw [e];omega,by rw [e,Int.ediv_one];exact Z8R (by omega)⟩
theorem copy_loop {x4:List (List Span)} (hc:x4.length * 24≤reachBytes) (hs:∀ l ∈ x4,Len l):loopO (Zo.s1 x4) (0,[]) = some x4:=by
 have hcl:(x4.length:Int) < 4611686018427387904:=Z2n (b:=23) hc
 have hr:=Z0e
 have hro:=Z4i
 refine Z2E (I:=fun s r => r = x4∧∃ k:Nat,k≤x4.length∧s = ((k:Int),x4.take k)) (fun s => x4.length - s.1.toNat) ?_ ⟨rfl,0,YS _,rfl⟩
 rintro s r ⟨rfl,k,hk,rfl⟩
 unfold Zo.s1
 by_cases hlt:k < r.length
 ·left
  have hl:=hs _ (YY hlt)
  unfold Len at hl;have hcp:clone? 16 r[k] = some r[k]:=by unfold clone?;rw [if_pos (by omega)]
  have hap:app? 24 (r.take k) [r[k]] = some (r.take (k + 1)):=by
   rw [app?_ok (by simp only [YQ,Ye,Yf];have:min k r.length + 1≤r.length:=(by omega);have:=YH 24 this;omega)]
   rw [Y0R hlt]
  refine ⟨((k:Int) + 1,r.take (k + 1)),?_,⟨rfl,k + 1,hlt,by push_cast;rfl⟩,by simp;omega⟩
  rw [ZT (show (k:Int) < r.length by omega),cond_true,at?_nat hlt]
  simp only [Y0,hcp,hap];rw [ZD (show _ by omega)]
 ·right
  have:k = r.length:=by omega
  subst this;rw [Za (show ¬ ((r.length:Int) < r.length) by omega),cond_false,Y0F]
theorem core_b0_eq {f:Form} (hl:Lim f) (hs:Shape f) {d:Int} (hd:1≤d) (hdn:d ∣ f.Count) (h0:0 < f.Count) :
  (Good f d∧Zo.b0 f ([],0,0) d = some ((f.Core.take d.toNat,f.Period / (f.Count / d),d),1))∨(¬ Good f d∧Zo.b0 f ([],0,0) d = some (([],0,0),0)):=by
 have hle:d≤f.Count:=Y0t h0 hdn
 have hcl:(f.Core.length:Int) < 4611686018427387904:=Z2n (b:=23) hl.core
 have hcnt:=hs.count
 have hm:0 < f.Count / d:=Y0o h0 (by omega) hdn
 have hmle:f.Count / d≤f.Count:=Y0W _ (by omega)
 have htd:f.Count.tdiv d = f.Count / d:=Y0p (by omega)
 have hq:0≤f.Period / (f.Count / d)∧f.Period / (f.Count / d)≤1099511627776:=by
  have h1:=hs.per
  have h2:f.Period / (f.Count / d)≤f.Period:=Y0W _ h1.1
  have h3:0≤f.Period / (f.Count / d):=Int.ediv_nonneg h1.1 (by omega)
  omega
 have hfl:Z07 f.Period (w64 (f.Count.tdiv d)) = some (f.Period / (f.Count / d),f.Period % (f.Count / d),0):=by
  rw [htd,ZD (show _ by omega),Z0v hl.period (by unfold In64;omega),Z2U hm]
 unfold Zo.b0
 rw [nz?_ok (by omega),hfl]
 simp only [Y0]
 by_cases hr:f.Period % (f.Count / d) = 0
 ·rw [bne_f hr,cond_false];obtain ⟨r,h1,h2⟩:=canon_turn_eq hl hs hd hle hq
  rw [h1];cases r with
  | true =>
   left
   refine ⟨⟨hd,hdn,hr,h2.1 rfl⟩,?_⟩;have hcut:cut? f.Core 0 d = some (f.Core.take d.toNat):=by
    unfold cut?;rw [if_pos ⟨by omega,by omega,by omega⟩]
    rfl
   simp only [Y0,Yd,cond_false,hcut];have:=copy_loop (x4:=f.Core.take d.toNat) (by have:=hl.core;simp only [YQ];have h:=YH 24 (Nat.min_le_right d.toNat f.Core.length);omega) (fun l hl' => (hl.sets l (Yl hl')).1)
   rw [this]
   rfl
  | false =>
   right
   exact ⟨fun g => (by have:=h2.2 g.turn;cases this),rfl⟩
 ·right
  refine ⟨fun g => hr g.rest,?_⟩
  rw [bne_t hr]
  rfl
theorem least_good {f:Form} (h0:0 < f.Count):∃ d,Good f d∧∀ d',Good f d'→d≤d':=by
 have:∃ n:Nat,Good f n:=⟨f.Count.toNat,by rw [Y0J (by omega)];exact good_self h0⟩
 obtain ⟨n,hn⟩:=this
 induction n using Nat.strongRecOn with
 | _ n ih =>
  by_cases h:∃ m:Nat,m < n∧Good f m
  ·obtain ⟨m,h1,h2⟩:=h
   exact ih m h1 h2
  ·refine ⟨n,hn,fun d' hd' => ?_⟩
   apply Classical.byContradiction;intro hlt;have:=hd'.pos
   exact h ⟨d'.toNat,by omega,by rw [Y0J (by omega)];exact hd'⟩
theorem canon_bare_eq {f:Form} (hl:Lim f):Z3f f = Z3K f:=by
 unfold Z3f Z3K
 rfl
theorem canon_core_eq {f:Form} (hl:Lim f) (hs:Shape f):(Bare f∧Zo f = some (Form.mk 0 0 [] [])) ∨
  (¬ Bare f∧0 < f.Count∧∃ d,Good f d∧(∀ d',Good f d'→d≤d')∧Zo f = some (Form.mk (f.Period / (f.Count / d)) d (f.Core.take d.toNat) [])):=by
 have hcl:(f.Core.length:Int) < 4611686018427387904:=Z2n (b:=23) hl.core
 have hcnt:=hs.count
 obtain ⟨b,h1,h2⟩:=Z6x hl
 unfold Zo
 rw [canon_bare_eq hl,h1]
 cases b with
 | true => exact .inl ⟨h2.1 rfl,rfl⟩
 | false =>
  right
  have hnb:¬ Bare f:=fun h => by have:=h2.2 h;cases this
  have h0:0 < f.Count:=by
   rcases Y0K f.Core.length with h | h
   ·exact absurd (fun l hl' => by rw [List.length_eq_zero_iff.1 h] at hl';cases hl') hnb
   ·omega
  obtain ⟨d,hg,hmin⟩:=least_good h0
  refine ⟨hnb,h0,d,hg,hmin,?_⟩;have hdn:d≤f.Count:=Y0t h0 hg.dvd
  have hd1:=hg.pos
  have hloop:loopO (Zr.s0 f.Count (Z1G (Zo.b0 f))) (1,(([],0,0),0)) = some (.ret ((f.Core.take d.toNat,f.Period / (f.Count / d),d),1)):=by
   refine Z2E (I:=fun s r => r = .ret ((f.Core.take d.toNat,f.Period / (f.Count / d),d),1)∧∃ k:Int,1≤k∧k≤d∧s = (k,(([],0,0),0))) (fun s => (d - s.1).toNat) ?_ ⟨rfl,1,by omega,hd1,rfl⟩
   rintro s r ⟨rfl,k,k1,k2,rfl⟩;unfold Zr.s0;rw [ZT (show k≤f.Count by omega),cond_true,nz?_ok (by omega)]
   simp only [Y0]
   by_cases hkd:k ∣ f.Count
   ·rw [beq_t (show f.Count.tmod k = 0 from Int.tmod_eq_zero_of_dvd hkd),cond_true]
    rcases core_b0_eq hl hs k1 hkd h0 with ⟨g,e⟩ | ⟨g,e⟩
    ·have:k = d:=by have:=hmin k g;omega
     subst this
     right
     simp only [Z1G,if_true,e,Y9,Y0]
     rfl
    ·left
     have hne:k ≠ d:=fun h => g (h ▸ hg)
     refine ⟨(k + 1,(([],0,0),0)),?_,⟨trivial,k + 1,by omega,by omega,rfl⟩,by simp;omega⟩
     simp only [Z1G,if_true,e,Y9,Y0];rw [ZD (show _ by omega)]
     rfl
   ·left
    have hne:k ≠ d:=fun h => hkd (h ▸ hg.dvd)
    refine ⟨(k + 1,(([],0,0),0)),?_,⟨trivial,k + 1,by omega,by omega,rfl⟩,by simp;omega⟩
    rw [Z5D (fun h => hkd (Int.dvd_of_tmod_eq_zero h)),cond_false]
    simp only [Y0,cond_false];rw [ZD (show _ by omega)]
  unfold Zr;rw [hloop]
  rfl
end Go.Dn

namespace Go.Dn
open Go
def Turn (h:Int→List Span) (d q:Int):Prop:=∀ i,h (i + d) = (h i).map (ZW q)
theorem Turn.neg {h:Int→List Span} {d q:Int} (t:Turn h d q):Turn h (-d) (-q):=fun i => by
 have:=t (i + -d)
 rw [show i + -d + d = i by omega] at this
 rw [this,Z1W,Int.add_right_neg,Z9B]
theorem Turn.add {h:Int→List Span} {d q d' q':Int} (t:Turn h d q) (t':Turn h d' q'):Turn h (d + d') (q + q'):=fun i => by
 rw [show i + (d + d') = (i + d) + d' by omega,t',t,Z1W]
theorem Turn.zero (h:Int→List Span):Turn h 0 0:=fun i => by rw [Int.add_zero,Z9B]
theorem Turn.nat {h:Int→List Span} {d q:Int} (t:Turn h d q):∀ k:Nat,Turn h (k * d) (k * q)
 | 0 => by simpa using Turn.zero h
 | k + 1 => by
  have:=(Turn.nat t k).add t
  push_cast
  rw [Y0Z,Int.one_mul,Y0Z,Int.one_mul];exact this
theorem Turn.mul {h:Int→List Span} {d q:Int} (t:Turn h d q) (k:Int):Turn h (k * d) (k * q):=by
 rcases Int.natAbs_eq k with e | e
 ·rw [e];exact t.nat _
 ·rw [e,Int.neg_mul,Int.neg_mul];exact (t.nat _).neg
theorem Turn.agree {h h':Int→List Span} {d q a:Int} (t:Turn h d q) (t':Turn h' d q) (hd:0 < d) (he:∀ i,a≤i→i < a + d→h i = h' i):h = h':=by
 funext i
 have e:i = ((i - a) % d + a) + (i - a) / d * d:=by
  have:=Y02 (i - a) d
  rw [Y0G] at this;omega
 have h1:=Yk (i - a) (show d ≠ 0 by omega)
 have h2:=Yq (i - a) hd
 rw [e,t.mul,t'.mul,he _ (by omega) (by omega)]
noncomputable def csz (f:Form) (i:Int):List Span:=if f.Count = 0 then [] else cs f i
theorem Z1o {f:Form} (h0:0 < f.Count):csz f = cs f:=by funext i;exact if_neg (by omega)
theorem Z3l {f:Form} {i:Int} (h:¬ Z3P f i):ZL f i = csz f i:=by
 unfold csz
 by_cases h0:f.Count = 0
 ·rw [if_pos h0,Z3D h h0]
 ·rw [if_neg h0,Z39 h h0];rfl
theorem csz_bare {f:Form} (hs:Shape f) (hb:Bare f) (i:Int):csz f i = []:=by
 unfold csz
 by_cases h0:f.Count = 0
 ·rw [if_pos h0]
 ·rw [if_neg h0];unfold cs;rw [hb _ (Z0K hs h0 i).2];rfl
def Z1k (f c:Form):Prop:=(Bare f∧c = Form.mk 0 0 [] [])∨(¬ Bare f∧0 < f.Count∧∃ d,Good f d∧(∀ d',Good f d'→d≤d')∧c = Form.mk (f.Period / (f.Count / d)) d (f.Core.take d.toNat) [])
theorem canon_core_ok {f:Form} (hl:Lim f) (hs:Shape f):∃ c,Zo f = some c∧Z1k f c:=by
 rcases canon_core_eq hl hs with ⟨h1,h2⟩ | ⟨h1,h2,d,h3,h4,h5⟩
 ·exact ⟨_,h2,.inl ⟨h1,rfl⟩⟩
 ·exact ⟨_,h5,.inr ⟨h1,h2,d,h3,h4,rfl⟩⟩
theorem Z1k.odd {f c:Form} (h:Z1k f c):c.Odd = []:=by
 rcases h with ⟨_,rfl⟩ | ⟨_,_,d,_,_,rfl⟩ <;> rfl
theorem Z1k.csz {f c:Form} (hs:Shape f) (h:Z1k f c):csz c = csz f:=by
 rcases h with ⟨hb,rfl⟩ | ⟨hb,h0,d,hg,_,rfl⟩
 ·funext i;rw [csz_bare hs hb];rfl
 ·have hd:=hg.pos
  have hdn:d≤f.Count:=Y0t h0 hg.dvd
  have hcnt:=hs.count
  rw [Z1o h0,Z1o (show 0 < (Form.mk (f.Period / (f.Count / d)) d (f.Core.take d.toNat) []).Count by show 0 < d;omega)]
  refine Turn.agree (a:=0) (d:=d) (q:=f.Period / (f.Count / d)) (Z8R (f:=Form.mk (f.Period / (f.Count / d)) d (f.Core.take d.toNat) []) (show d ≠ 0 by omega)) hg.turn (by omega) (fun i i0 i1 => ?_)
  rw [Z5u i0 (show i < d by omega),Z5u i0 (by omega)]
  show (f.Core.take d.toNat).getD i.toNat [] = _
  rw [YL,YL,List.getElem?_take_of_lt (by omega)]
theorem Z1k.shape {f c:Form} (hs:Shape f) (h:Z1k f c):Shape c:=by
 rcases h with ⟨hb,rfl⟩ | ⟨hb,h0,d,hg,_,rfl⟩
 ·exact ⟨rfl,by simp,by simp,by simp,by simp,fun j k a b _ h => by simp at h⟩
 ·have hd:=hg.pos
  have hdn:d≤f.Count:=Y0t h0 hg.dvd
  have hcnt:=hs.count
  have hm:0 < f.Count / d:=Y0o h0 (by omega) hg.dvd
  have hp:0 < f.Period:=by
   have:=hs.per;have:=hs.zero
   rcases Int.lt_or_le 0 f.Period with h | h
   ·exact h
   ·have:f.Period = 0:=by omega
    have:=hs.zero.2 this
    omega
  have hq:0 < f.Period / (f.Count / d):=Y0o hp (by omega) (Int.dvd_of_emod_eq_zero hg.rest)
  have hq2:f.Period / (f.Count / d)≤f.Period:=Y0W _ (by omega)
  refine ⟨?_,?_,?_,?_,by simp,fun j k a b _ h => by simp at h⟩
  ·simp only [YQ];omega
  ·simp only;omega
  ·simp only;have:=hs.per;omega
  ·intro l hl';exact hs.core l (Yl hl')
theorem Z1k.lim {f c:Form} (hl:Lim f) (hs:Shape f) (h:Z1k f c):Lim c:=by
 have hsc:=h.shape hs
 have hn:c.Core.length≤f.Core.length∧∀ l ∈ c.Core,l ∈ f.Core:=by
  rcases h with ⟨hb,rfl⟩ | ⟨hb,h0,d,hg,_,rfl⟩
  ·exact ⟨YS _,fun l hl' => by cases hl'⟩
  ·exact ⟨by simp only [YQ];omega,fun l hl' => Yl hl'⟩
 have hc:=hl.core
 have h24:=YH 24 hn.1
 have hp:=hsc.per
 have hcnt:=hsc.count
 have hcl:(f.Core.length:Int) < 4611686018427387904:=Z2n (b:=23) hl.core
 exact ⟨by omega,fun l hl' => hl.sets l (hn.2 l hl'),by rw [h.odd];simp [Z0e],by rw [h.odd];simp,by unfold In64;omega,by unfold In64;omega⟩
theorem Z1k.ZL {f c:Form} (hs:Shape f) (h:Z1k f c) (i:Int):ZL c i = Go.Dn.csz f i:=by
 rw [Z3l (by rintro ⟨g,hg,_⟩;rw [h.odd] at hg;cases hg),h.csz hs]
theorem ZCc {f c:Form} (hl:Lim f) (hs:Shape f) (h:Z1k f c) {g:Granule} (hg:g ∈ f.Odd):∃ r,Z2y c g = some r∧(r = true ↔ csz f g.Index = g.Ticks):=by
 obtain ⟨hr,ht⟩:=hs.odd g hg
 have hlc:=h.lim hl hs
 have hsc:=h.shape hs
 unfold Z2y
 rw [Z3i hlc hsc (Z1H ht)]
 by_cases hf:fits c g.Index
 ·rw [if_pos ⟨ht,hf⟩];obtain ⟨r,h1,h2⟩:=Z8q (a:=Go.Dn.ZL c g.Index) (b:=g.Ticks) (Z8P hlc hsc _)
  refine ⟨r,?_,?_⟩
  ·simp only [Y0];rw [beq_t rfl,cond_true,h1];rfl
  ·rw [h2,h.ZL hs]
 ·rw [if_neg (fun h' => hf h'.2)]
  refine ⟨false,rfl,⟨(fun h' => nomatch h'),fun e => absurd (fun s hs' => ?_) hf⟩⟩
  rw [h.ZL hs,e] at hs';obtain ⟨k,hk⟩:=YC hs'
  have:=Z7I.1 hr k s hk
  exact ⟨this.1,this.2.1⟩
open Classical in
noncomputable def oddly (f:Form) (g:Granule):Bool:=decide (¬ csz f g.Index = g.Ticks)
noncomputable def Z1u (f c:Form):Form:=Form.mk c.Period c.Count c.Core (f.Odd.filter (oddly f))
theorem Z2i {f:Form} (hl:Lim f) (hs:Shape f):∃ c,Z1k f c∧ZZ f = some (Z1u f c):=by
 obtain ⟨c,h1,hc⟩:=canon_core_ok hl hs
 refine ⟨c,hc,?_⟩
 unfold ZZ
 rw [h1]
 simp only [Y0]
 have hol:(f.Odd.length:Int) < 4611686018427387904:=Z2n (b:=31) hl.odd
 have hr:=Z0e
 have hro:=Z4i
 have:loopO (ZZ.s0 f c) (0,[]) = some (f.Odd.filter (oddly f)):=by
  refine Z2E (I:=fun s r => r = f.Odd.filter (oddly f)∧∃ k:Nat,k≤f.Odd.length∧s = ((k:Int),(f.Odd.take k).filter (oddly f))) (fun s => f.Odd.length - s.1.toNat) ?_ ⟨rfl,0,YS _,rfl⟩
  rintro s r ⟨rfl,k,hk,rfl⟩;unfold ZZ.s0
  by_cases hlt:k < f.Odd.length
  ·left
   have hmem:=YY hlt
   obtain ⟨r,p1,p2⟩:=ZCc hl hs hc hmem
   have htk:f.Odd.take (k + 1) = f.Odd.take k ++ [f.Odd[k]]:=(Y0R hlt).symm
   have hlen:=(hl.ticks _ hmem).2.1
   unfold Len at hlen;refine ⟨((k:Int) + 1,(f.Odd.take (k + 1)).filter (oddly f)),?_,⟨rfl,k + 1,hlt,by push_cast;rfl⟩,by simp;omega⟩
   rw [ZT (show (k:Int) < f.Odd.length by omega),cond_true,at?_nat hlt]
   simp only [Y0,p1];rw [ZD (show _ by omega),htk,List.filter_append]
   cases r with
   | true =>
    have:oddly f f.Odd[k] = false:=by unfold oddly;rw [decide_eq_false_iff_not];exact fun h => h (p2.1 rfl)
    simp only [Yd,cond_false,Y0,List.filter_cons,this,YA,if_false,List.filter_nil,YO]
   | false =>
    have:oddly f f.Odd[k] = true:=by unfold oddly;rw [decide_eq_true_iff];exact fun h => by have:=p2.2 h;cases this
    have hcp:clone? 16 f.Odd[k].Ticks = some f.Odd[k].Ticks:=by unfold clone?;rw [if_pos (by omega)]
    have hfl:((f.Odd.take k).filter (oddly f)).length≤k:=by
     have:=Y0E (oddly f) (f.Odd.take k)
     simp only [YQ] at this;omega
    have hap:app? 32 ((f.Odd.take k).filter (oddly f)) [Granule.mk f.Odd[k].Index f.Odd[k].Ticks] = some ((f.Odd.take k).filter (oddly f) ++ [f.Odd[k]]):=by
     rw [app?_ok (by simp only [Ye,Yf];have h3:=hl.odd;have:=YH 32 (show ((f.Odd.take k).filter (oddly f)).length + 1≤f.Odd.length by omega);omega)]
    simp only [Y0n,cond_true,Y0,hcp,hap,List.filter_cons,this,if_true,List.filter_nil]
  ·right
   have:k = f.Odd.length:=by omega
   subst this;rw [Za (show ¬ ((f.Odd.length:Int) < f.Odd.length) by omega),cond_false,Y0F]
 rw [this]
 rfl
end Go.Dn

namespace Go.Dn
open Go
theorem form_ext {a b:Form}:a = b ↔ a.Period = b.Period∧a.Count = b.Count∧a.Core = b.Core∧a.Odd = b.Odd:=by
 obtain ⟨a1,a2,a3,a4⟩:=a
 obtain ⟨b1,b2,b3,b4⟩:=b
 simp
end Go.Dn

namespace Go.Dn
open Go
theorem Z9l {l:List Granule}:Inc l ↔ l.Pairwise (fun a b => a.Index < b.Index):=by
 rw [Yo]
 constructor
 ·intro h i j hi hj hij;exact h i j _ _ hij (Y2 hi) (Y2 hj)
 ·intro h j k a b hjk ha hb;obtain ⟨h1,rfl⟩:=List.getElem?_eq_some_iff.1 ha
  obtain ⟨h2,rfl⟩:=List.getElem?_eq_some_iff.1 hb
  exact h j k h1 h2 hjk
theorem Inc.filter {l:List Granule} (h:Inc l) (p:Granule→Bool):Inc (l.filter p):=Z9l.2 ((Z9l.1 h).filter p)
theorem Z5Z {f c:Form} (hs:Shape f) (h:Z1k f c):csz (Z1u f c) = csz f:=by
 rw [← h.csz hs];rfl
theorem ZAX {f:Form} {g:Granule}:oddly f g = true ↔ ¬ csz f g.Index = g.Ticks:=by unfold oddly;rw [decide_eq_true_iff]
theorem Z2x {f c:Form} {g:Granule}:g ∈ (Z1u f c).Odd ↔ g ∈ f.Odd∧oddly f g = true:=List.mem_filter
theorem ZAJ {f c:Form} (hs:Shape f) (h:Z1k f c):ZL (Z1u f c) = ZL f:=by
 funext i
 by_cases ho:Z3P f i
 ·obtain ⟨g,hg,rfl⟩:=ho
  rw [Z18 hs.inc hg]
  by_cases hod:oddly f g = true
  ·exact Z18 (hs.inc.filter _) (Z2x.2 ⟨hg,hod⟩)
  ·have he:csz f g.Index = g.Ticks:=Classical.byContradiction fun hn => hod (ZAX.2 hn)
   rw [Z3l (f:=Z1u f c),Z5Z hs h,he]
   rintro ⟨g',hg',e⟩;obtain ⟨m1,m2⟩:=Z2x.1 hg'
   have:=hs.inc.uniq m1 hg e
   subst this;exact hod m2
 ·rw [Z3l ho,Z3l (f:=Z1u f c),Z5Z hs h]
  rintro ⟨g',hg',e⟩;exact ho ⟨g',(Z2x.1 hg').1,e⟩
theorem Z78 {f c:Form} (hs:Shape f) (h:Z1k f c):Shape (Z1u f c):=by
 have:=h.shape hs
 exact ⟨this.count,this.zero,this.per,this.core,fun g hg => hs.odd g (Z2x.1 hg).1,hs.inc.filter _⟩
theorem canonF_lim {f c:Form} (hl:Lim f) (hs:Shape f) (h:Z1k f c):Lim (Z1u f c):=by
 have:=h.lim hl hs
 refine ⟨this.core,this.sets,?_,fun g hg => hl.ticks g (Z2x.1 hg).1,this.count,this.period⟩
 have h1:(Z1u f c).Odd.length≤f.Odd.length:=Y0E _ _
 have:=hl.odd
 have:=YH 32 h1
 omega
theorem turns_of {f:Form} (hs:Shape f) (h:0 < f.Count→∀ i k,i < k→cs f i ≠ []→cs f k ≠ []→lstT (cs f i) < fstT (cs f k)):Turns f:=by
 have hcnt:=hs.count
 have at_:∀ (j:Nat) (a:List Span),f.Core[j]? = some a→cs f j = a:=fun j a ha => by
  have:=(List.getElem?_eq_some_iff.1 ha).1
  rw [Z5u (by omega) (by omega),YL,Y0i,ha];rfl
 have hpw:f.Core.Pairwise (fun a b => a ≠ []→b ≠ []→lstT a < fstT b):=by
  rw [Yo];intro i j hi hj hij na nb;have h1:=at_ i _ (Y2 hi)
  have h2:=at_ j _ (Y2 hj)
  have:=h (by omega) i j (by omega) (by rw [h1];exact na) (by rw [h2];exact nb)
  rw [h1,h2] at this;exact this
 constructor
 ·intro k a b ha hb;have hp:=hpw.filter (fun l => decide (l.length > 0))
  rw [Yo] at hp;obtain ⟨h1,rfl⟩:=List.getElem?_eq_some_iff.1 ha
  obtain ⟨h2,rfl⟩:=List.getElem?_eq_some_iff.1 hb
  exact hp k (k + 1) h1 h2 (by omega) (Z3S.1 (YY h1)).2 (Z3S.1 (YY h2)).2
 ·intro a b ha hb;obtain ⟨ma,na⟩:=Z3S.1 (List.mem_of_getLast? ha)
  obtain ⟨mb,nb⟩:=Z3S.1 (List.mem_of_head? hb)
  obtain ⟨j,hj⟩:=YC ma
  obtain ⟨k,hk⟩:=YC mb
  have hjl:=(List.getElem?_eq_some_iff.1 hj).1
  have h1:=at_ j _ hj
  have h2:=at_ k _ hk
  have h3:cs f ((k:Int) + f.Count) = b.map (ZW f.Period):=by rw [Z8R (by omega),h2]
  have:=h (by omega) j ((k:Int) + f.Count) (by omega) (by rw [h1];exact na) (by rw [h3];simpa using nb)
  rw [h1,h3,(Z3O _ nb).2] at this;exact this
theorem ZAh {f:Form} (hs:Shape f) (ht:Turns f) {i k:Int} (hik:i < k) (ni:csz f i ≠ []) (nk:csz f k ≠ []):lstT (csz f i) < fstT (csz f k):=by
 have h0:f.Count ≠ 0:=fun h => ni (by unfold csz;rw [if_pos h])
 unfold csz at ni nk ⊢
 rw [if_neg h0] at ni nk ⊢
 rw [if_neg h0]
 have n1:Z0G f i ≠ []:=fun h => ni (by unfold cs;rw [h];rfl)
 have n2:Z0G f k ≠ []:=fun h => nk (by unfold cs;rw [h];rfl)
 have:=ZCf hs ht h0 hik n1 n2
 unfold cs
 rw [(Z3O _ n1).1,(Z3O _ n2).2]
 exact this
theorem beside_congr {f g:Form} (h:ZL g = ZL f) {i:Int} (hb:Beside f i):Beside g i:=by
 intro lo hi hlo hhi
 have hu:Under f i lo:=by unfold Under at hlo ⊢;rw [h] at hlo;exact hlo
 have ha:Above f i hi:=by unfold Above at hhi ⊢;rw [h] at hhi;exact hhi
 have:=hb lo hi hu ha
 unfold BesideR fits at this ⊢
 rw [h]
 exact this
theorem canonF_right {f c:Form} (hr:RightF f) (h:Z1k f c):RightF (Z1u f c):=by
 have hs:=hr.shape
 refine ⟨Z78 hs h,turns_of (Z78 hs h) (fun h0 i k hik ni nk => ?_),fun g hg => beside_congr (ZAJ hs h) (hr.beside g (Z2x.1 hg).1)⟩
 rw [← Z1o h0,Z5Z hs h] at ni nk ⊢
 exact ZAh hs hr.turns hik ni nk
theorem canonF_fix {f c:Form} (hs:Shape f) (h:Z1k f c):Z1k (Z1u f c) c∧Z1u (Z1u f c) c = Z1u f c:=by
 have hcz:=Z5Z hs h
 have hodd:(Z1u f c).Odd.filter (oddly (Z1u f c)) = (Z1u f c).Odd:=by
  rw [List.filter_eq_self];intro g hg;have:=(Z2x.1 hg).2
  rw [ZAX] at this ⊢;rw [hcz];exact this
 have hco:=h.odd
 refine ⟨?_,by unfold Z1u at hodd ⊢;rw [form_ext];exact ⟨rfl,rfl,rfl,hodd⟩⟩
 rcases h with ⟨hb,rfl⟩ | ⟨hb,h0,d,hg,hmin,rfl⟩
 ·exact .inl ⟨(fun l hl => by cases hl),rfl⟩
 ·right
  have hd:=hg.pos
  have hdn:d≤f.Count:=Y0t h0 hg.dvd
  have hcnt:=hs.count
  generalize hc':Z1u f (Form.mk (f.Period / (f.Count / d)) d (f.Core.take d.toNat) []) = c' at hcz;have e1:c'.Count = d:=by rw [← hc'];rfl
  have e2:c'.Period = f.Period / (f.Count / d):=by rw [← hc'];rfl
  have e3:c'.Core = f.Core.take d.toNat:=by rw [← hc'];rfl
  have hcs:cs c' = cs f:=by rw [← Z1o (show 0 < c'.Count by omega),← Z1o h0,hcz]
  have hlen:(f.Core.take d.toNat).length = d.toNat:=by rw [YQ];omega
  have good_up:∀ d',Good c' d'→Good f d':=fun d' g => by
   have q1:=g.pos
   have q2:=g.dvd
   have q3:=g.rest
   have q4:=g.turn
   rw [e1] at q2 q3 q4;rw [e2] at q3 q4;have hdd:d' ∣ f.Count:=Int.dvd_trans q2 hg.dvd
   obtain ⟨a,ha⟩:=q2
   obtain ⟨b,hb'⟩:=hg.dvd
   have hbp:0 < b:=by
    rcases Int.lt_or_le 0 b with h | h
    ·exact h
    ·have:d * b≤0:=Y0M (by omega) h
     omega
   have hap:0 < a:=by
    rcases Int.lt_or_le 0 a with h | h
    ·exact h
    ·have:d' * a≤0:=Y0M (by omega) h
     omega
   have f1:f.Count / d = b:=by rw [hb',Int.mul_ediv_cancel_left _ (by omega)]
   have f2:d / d' = a:=by rw [ha,Int.mul_ediv_cancel_left _ (by omega)]
   have f3:f.Count / d' = a * b:=by rw [hb',ha,Y03,Int.mul_ediv_cancel_left _ (by omega)]
   have hrest:=hg.rest
   rw [f1] at hrest q3 q4;rw [f2] at q3 q4;have f4:f.Period = a * (f.Period / b / a) * b:=by
    have z1:=Int.ediv_mul_cancel (Int.dvd_of_emod_eq_zero hrest)
    have z2:=Int.ediv_mul_cancel (Int.dvd_of_emod_eq_zero q3)
    rw [Y0G a,z2,z1]
   have f5:f.Period = (f.Period / b / a) * (a * b):=by
    conv => lhs;rw [f4]
    rw [Y0G a,Y03]
   have hab:a * b ≠ 0:=by
    have:=Int.mul_pos hap hbp
    omega
   have f6:f.Period / (a * b) = f.Period / b / a:=by
    conv => lhs;rw [f5]
    exact Int.mul_ediv_cancel _ hab
   refine ⟨q1,hdd,?_,?_⟩
   ·rw [f3];exact Int.emod_eq_zero_of_dvd ⟨f.Period / b / a,by rw [Y0G];exact f5⟩
   ·rw [f3,f6];intro i;have:=q4 i;rw [hcs] at this;exact this
  have hself:Good c' c'.Count:=good_self (by omega)
  refine ⟨fun hbare => hb ?_,by omega,d,by rw [← e1];exact hself,fun d' g => hmin d' (good_up d' g),?_⟩
  ·intro l hl;obtain ⟨k,hk⟩:=YC hl
   have hkl:=(List.getElem?_eq_some_iff.1 hk).1
   have hbz:∀ i,cs f i = []:=fun i => by
    rw [← hcs];have hcore:∀ i,Z0G c' i ∈ c'.Core:=fun i => by
     unfold Z0G;have h1:=Yk i (show c'.Count ≠ 0 by omega)
     have h2:=Yq i (show 0 < c'.Count by omega)
     have:(i % c'.Count).toNat < c'.Core.length:=by rw [e3,hlen];omega
     rw [YL,Y2 this];exact YY _
    unfold cs;rw [hbare _ (hcore i)];rfl
   have:=hbz k
   rw [Z5u (by omega) (by omega),YL,Y0i,hk] at this
   exact this
  ·rw [form_ext];have hdd:d / d = 1:=Int.ediv_self (by omega)
   refine ⟨?_,rfl,?_,rfl⟩
   ·show _ = c'.Period / (c'.Count / d)
    rw [e1,e2,hdd,Int.ediv_one]
   ·show _ = c'.Core.take d.toNat
    rw [e3,List.take_take,Nat.min_self]
end Go.Dn

namespace Go.Dn
open Go
theorem Z8f {α:Type} (g:α→Nat) (p:α→Bool):∀ l:List α,((l.filter p).map g).sum≤(l.map g).sum
 | [] => YB _
 | x :: l => by
  have:=Z8f g p l
  rw [List.filter_cons]
  split <;> simp only [Y05,List.sum_cons] <;> omega
theorem ZBL {α:Type} (g:α→Nat):∀ (n:Nat) (l:List α),((l.take n).map g).sum≤(l.map g).sum
 | 0,l => by simp
 | n + 1,[] => by simp
 | n + 1,x :: l => by
  have:=ZBL g n l
  simp only [List.take_succ_cons,Y05,List.sum_cons];omega
theorem coreOf_le {f c:Form} (hs:Shape f) (h:Z1k f c):c.Count≤f.Count∧c.Period≤f.Period∧c.Core.length≤f.Core.length∧(c.Core.map List.length).sum≤(f.Core.map List.length).sum:=by
 have hp:=hs.per
 have hcnt:=hs.count
 rcases h with ⟨hb,rfl⟩ | ⟨hb,h0,d,hg,hmin,rfl⟩
 ·exact ⟨by simp only;omega,by simp only;omega,YS _,YS _⟩
 ·exact ⟨Y0t h0 hg.dvd,Y0W _ hp.1,by simp only [YQ];omega,ZBL _ _ _⟩
theorem canon_facts {f:Form} (hl:Lim f) (hr:RightF f):∃ g,ZZ f = some g∧Lim g∧RightF g∧ZL g = ZL f∧ZZ g = some g∧g.Count≤f.Count∧g.Period≤f.Period∧g.Core.length≤f.Core.length∧g.Odd.length≤f.Odd.length∧Z5U g≤Z5U f:=by
 have hs:=hr.shape
 obtain ⟨c,hc,hf⟩:=Z2i hl hs
 have hl':=canonF_lim hl hs hc
 have hs':=Z78 hs hc
 obtain ⟨hfx,hfe⟩:=canonF_fix hs hc
 have hcl:=coreOf_le hs hc
 refine ⟨_,hf,hl',canonF_right hr hc,ZAJ hs hc,?_,hcl.1,hcl.2.1,hcl.2.2.1,Y0E _ _,?_⟩
 ·obtain ⟨c2,hc2,hf2⟩:=Z2i hl' hs'
  have:c2 = c:=by
   rcases hfx with ⟨b1,e1⟩ | ⟨b1,z1,d1,g1,m1,e1⟩ <;> rcases hc2 with ⟨b2,e2⟩ | ⟨b2,z2,d2,g2,m2,e2⟩
   ·rw [e1,e2]
   ·exact absurd b1 b2
   ·exact absurd b2 b1
   ·have:d1 = d2:=by have:=m1 d2 g2;have:=m2 d1 g1;omega
    subst this;rw [e2];exact e1.symm
  rw [hf2,this,hfe]
 ·have h1:=hcl.2.2.2
  have h2:=Z8f (fun g:Granule => g.Ticks.length) (oddly f) f.Odd
  unfold Z5U
  show (c.Core.map List.length).sum + ((f.Odd.filter (oddly f)).map (fun g => g.Ticks.length)).sum≤_
  omega
end Go.Dn

namespace Go.Dn
open Go
theorem shift_ne {l:List Span} (hn:l ≠ []) {a b:Int} (h:l.map (ZW a) = l.map (ZW b)):a = b:=by
 cases l with
 | nil => exact absurd rfl hn
 | cons s l =>
  simp only [Y05,List.cons.injEq,ZW,Span.mk.injEq] at h;omega
theorem Turn.uniq {h:Int→List Span} {d q q':Int} (t:Turn h d q) (t':Turn h d q') {i:Int} (hn:h i ≠ []):q = q':=shift_ne hn ((t i).symm.trans (t' i))
def NearF (f:Form) (m:Int):Prop:=∀ g ∈ f.Odd,-m≤g.Index∧g.Index≤m
end Go.Dn

namespace Go.Dn
open Go
end Go.Dn

namespace Go.Dn
open Go
end Go.Dn

namespace Go.Dn
open Go
def Mid (x:Int):Prop:=-1000000000000000000≤x∧x≤1000000000000000000
end Go.Dn

namespace Go.Dn
open Go
end Go.Dn

namespace Go.Dn
open Go
theorem u64_id {a:Int} (h:0≤a∧a < 18446744073709551616):IntKind.u64.wrap a = a:=by rw [Z5e];omega
def Dig (x:Int):Prop:=0≤x∧x < 65536
structure Digs (d:Arr9_u32):Prop where
 h0:Dig d.d0
 h1:Dig d.d1
 h2:Dig d.d2
 h3:Dig d.d3
 h4:Dig d.d4
 h5:Dig d.d5
 h6:Dig d.d6
 h7:Dig d.d7
 h8:Dig d.d8
def lsz (d:Arr9_u32):Int:=d.d0 + 65536 * (d.d1 + 65536 * (d.d2 + 65536 * (d.d3 + 65536 * (d.d4 + 65536 * (d.d5 + 65536 * (d.d6 + 65536 * (d.d7 + 65536 * d.d8)))))))
def lval (x:epactref01_long):Int:=if x.minus = true then -lsz x.digits else lsz x.digits
end Go.Dn

namespace Go.Dn
open Go
structure Low (d:Arr9_u32):Prop where
 z4:d.d4 = 0
 z5:d.d5 = 0
 z6:d.d6 = 0
 z7:d.d7 = 0
 z8:d.d8 = 0
end Go.Dn

namespace Go.Dn
open Go
theorem gcd_ok {a b:Int} (ha:In64 a) (hb:In64 b):gcd? (a.natAbs:Int) b.natAbs = some ((Nat.gcd a.natAbs b.natAbs:Nat):Int):=by
 unfold gcd?
 rw [if_pos (by unfold In64 at *;omega)]
 rfl
theorem gcd_lt {a b:Int} (ha:In64 a) (hb:In64 b):Nat.gcd a.natAbs b.natAbs≤9223372036854775808:=by
 unfold In64 at *
 by_cases h:a = 0
 ·subst h;simp;omega
 ·exact YX (Nat.gcd_le_left _ (by omega)) (by omega)
theorem safe_Gcd_eq' {a b:Int} (ha:In64 a) (hb:In64 b):Z5a a b = some (fitS ((Nat.gcd a.natAbs b.natAbs:Nat):Int)):=by
 have:=gcd_lt ha hb
 unfold Z5a
 rw [Z3M ha,Z3M hb,gcd_ok ha hb]
 simp only [Y0]
 rw [Z5X _ (by unfold Z6j;omega)]
 rfl
def lcmS (a b:Int):Int × Int:=if a = 0∨b = 0 then (0,0) else fitS (((a.natAbs / Nat.gcd a.natAbs b.natAbs:Nat):Int) * b.natAbs)
theorem Z66 {a b:Int} (ha:In64 a) (hb:In64 b):Z3A a b = some (lcmS a b):=by
 have:=gcd_lt ha hb
 unfold Z3A lcmS
 rw [Z3M ha,Z3M hb]
 by_cases h0:a = 0∨b = 0
 ·rw [if_pos h0];have:(((a.natAbs:Int) == 0) || ((b.natAbs:Int) == 0)) = true:=by simp;omega
  rw [this,cond_true]
 rw [if_neg h0]
 have h1:(((a.natAbs:Int) == 0) || ((b.natAbs:Int) == 0)) = false:=by simp;omega
 rw [h1,cond_false,gcd_ok ha hb]
 simp only [Y0]
 have gp:0 < Nat.gcd a.natAbs b.natAbs:=Y0I _ (by omega)
 rw [nz?_ok (by omega)]
 simp only [Y0]
 have hd:((a.natAbs:Int)).tdiv ((Nat.gcd a.natAbs b.natAbs:Nat):Int) = ((a.natAbs / Nat.gcd a.natAbs b.natAbs:Nat):Int):=by
  rw [Y0p (by omega)];rfl
 have hle:a.natAbs / Nat.gcd a.natAbs b.natAbs≤a.natAbs:=Nat.div_le_self _ _
 rw [hd]
 generalize a.natAbs / Nat.gcd a.natAbs b.natAbs = q at *
 rw [u64_id (a:=(q:Int)) (by unfold In64 at ha;omega),mul64_eq (by unfold Z6j;unfold In64 at ha;omega) (inU_abs hb)]
 simp only
 have hnn:0≤(q:Int) * b.natAbs:=Y0H (by omega) (by omega)
 generalize (q:Int) * b.natAbs = p at *
 by_cases hp:p / 18446744073709551616 = 0
 ·rw [bne_f hp,cond_false,Z5X _ (by unfold Z6j;omega)]
  have:p % 18446744073709551616 = p:=by omega
  rw [this];rfl
 ·rw [bne_t hp,cond_true,fitS_not (by unfold In64;omega)]
end Go.Dn

namespace Go.Dn
open Go
theorem hull_eq {l:List Span} (hl:Len l):Z21 l = some (if l = [] then (⟨0,0⟩,false) else (⟨fstT l,lstT l⟩,true)):=by
 have hlen:=Z2n (b:=15) hl
 unfold Z21
 by_cases h:l = []
 ·subst h;rfl
 ·have hp:0 < l.length:=List.length_pos_iff.2 h
  rw [if_neg h,Z5D (by omega),cond_false,ZD (by omega)]
  have e1:at? l 0 = some (l.head h):=by
   have:=at?_nat (l:=l) (k:=0) hp
   rw [show ((0:Nat):Int) = 0 from rfl] at this
   rw [this,List.head_eq_getElem]
  have e2:at? l ((l.length:Int) - 1) = some (l.getLast h):=by
   have:=at?_nat (l:=l) (k:=l.length - 1) (by omega)
   rw [show ((l.length - 1:Nat):Int) = (l.length:Int) - 1 by omega] at this
   rw [this,List.getLast_eq_getElem]
  rw [e1,e2];simp only [Y0];unfold fstT lstT;rw [Y04 h,Y00 h]
  rfl
def spotOf (g:Form) (j:Nat):Option size_spot:=if g.Core.getD j [] = [] then none else some ⟨(j:Int),⟨fstT (g.Core.getD j []),lstT (g.Core.getD j [])⟩⟩
def spotsUp (g:Form) (k:Nat):List size_spot:=(List.range k).filterMap (spotOf g)
abbrev spotsOf (g:Form):List size_spot:=spotsUp g g.Core.length
structure Spots (g:Form) (l:List size_spot):Prop where
 mem:∀ s ∈ l,0≤s.index∧s.index < g.Count∧cs g s.index ≠ []∧s.place.first = fstT (cs g s.index)∧s.place.last = lstT (cs g s.index)
 all:∀ j,0≤j→j < g.Count→cs g j ≠ []→∃ s ∈ l,s.index = j
 inc:l.Pairwise (fun a b => a.index < b.index)
def LastC (g:Form) (t i:Int):Prop:=cs g i ≠ []∧fstT (cs g i)≤t∧∀ k,i < k→cs g k ≠ []→t < fstT (cs g k)
def FirstC (g:Form) (t i:Int):Prop:=cs g i ≠ []∧t≤lstT (cs g i)∧∀ k,k < i→cs g k ≠ []→lstT (cs g k) < t
structure Fit (g:Form):Prop where
 lim:Lim g
 shape:Shape g
 turns:Turns g
 few:g.Core.length≤12
 odds:g.Odd.length≤8
theorem Fit.per {g:Form} (h:Fit g) (h0:0 < g.Count):0 < g.Period:=by
 have h1:=h.shape.per
 have h2:=h.shape.zero
 omega
def BigT (t:Int):Prop:=-4398046511104≤t∧t≤4398046511104
end Go.Dn

namespace Go.Dn
open Go
def putB (b:Int × Bool) (n:Int):Int × Bool:=if b.2 = false∨n > b.1 then (n,true) else b
structure Best (S:Int→Prop) (b:Int × Bool):Prop where
 yes:b.2 = true→S b.1∧∀ n,S n→n≤b.1
 no:b.2 = false→b.1 = 0∧∀ n,¬ S n
theorem Best.put {S S':Int→Prop} {b:Int × Bool} {n:Int} (h:Best S b) (hS:∀ m,S' m ↔ S m∨m = n):Best S' (putB b n):=by
 unfold putB
 split
 ·rename_i hc;refine ⟨fun _ => ⟨(hS n).2 (.inr rfl),fun m hm => ?_⟩,fun h => by cases h⟩
  rcases (hS m).1 hm with h1 | h1
  ·cases hb:b.2 with
   | false => exact absurd h1 ((h.no hb).2 m)
   | true =>
    have:=(h.yes hb).2 m h1
    rcases hc with h2 | h2
    ·rw [hb] at h2;cases h2
    ·simp only;omega
  ·subst h1;exact Y0P _
 ·rename_i hc;have hb:b.2 = true:=by cases hb:b.2 <;> simp_all
  refine ⟨fun _ => ⟨(hS b.1).2 (.inl (h.yes hb).1),fun m hm => ?_⟩,fun h => by rw [hb] at h;cases h⟩
  rcases (hS m).1 hm with h1 | h1
  ·exact (h.yes hb).2 m h1
  ·subst h1;have:¬ (m > b.1):=fun h => hc (.inr h)
   omega
theorem Best.congr {S S':Int→Prop} {b:Int × Bool} (h:Best S b) (hS:∀ m,S' m ↔ S m):Best S' b :=
 ⟨fun hb => ⟨(hS _).2 (h.yes hb).1,fun n hn => (h.yes hb).2 n ((hS n).1 hn)⟩,fun hb => ⟨(h.no hb).1,fun n hn => (h.no hb).2 n ((hS n).1 hn)⟩⟩
theorem Best.none {S:Int→Prop} (h:∀ n,¬ S n):Best S (0,false):=⟨fun h => by (cases h),fun _ => ⟨rfl,h⟩⟩
end Go.Dn

namespace Go.Dn
open Go
def byU (up:Bool):Int:=if up then 1 else -1
def sgU (up:Bool):Int:=if up then -1 else 1
def AtP (g:Form) (up:Bool) (t i:Int):Prop:=ZL g i ≠ []∧(if up then t≤lstT (ZL g i) else fstT (ZL g i)≤t)
end Go.Dn

namespace Go.Dn
open Go
def CoreP (g:Form) (up:Bool) (d i j:Int):Prop:=cs g i ≠ []∧cs g j ≠ []∧(if up then d≤lstT (cs g j) - fstT (cs g i) else fstT (cs g j) - lstT (cs g i)≤d)
def Z7U (g:Form) (up:Bool) (d i j:Int):Prop:=ZL g i ≠ []∧ZL g j ≠ []∧(if up then d≤lstT (ZL g j) - fstT (ZL g i) else fstT (ZL g j) - lstT (ZL g i)≤d)
def BigI (n:Int):Prop:=-600000000000000≤n∧n≤600000000000000
end Go.Dn

namespace Go.Dn
open Go
def FewF (f:Form):Prop:=f.Core.length≤12∧f.Odd.length≤8
theorem Z6M.few {f:Form} (h:Z6M f):FewF f:=⟨h.1,h.2.1⟩
structure DownS (f:Form) (d:Int) (r:Int × Bool):Prop where
 yes:r.2 = true→(∃ i j,Z7U f false d i j∧r.1 = j - i)∧∀ i j,Z7U f false d i j→j - i≤r.1
 no:r.2 = false→∀ i j,¬ Z7U f false d i j
structure UpS (f:Form) (d:Int) (r:Int × Bool):Prop where
 yes:r.2 = true→(∃ i j,Z7U f true d i j∧r.1 = j - i)∧∀ i j,Z7U f true d i j→r.1≤j - i
 no:r.2 = false→∀ i j,¬ Z7U f true d i j
theorem down_mono {f:Form} {d d' i j:Int} (h:Z7U f false d i j) (hd:d≤d'):Z7U f false d' i j:=by
 unfold Z7U at *
 simp only [YA,if_false] at *
 exact ⟨h.1,h.2.1,by omega⟩
noncomputable def bad (low high:Bound):Bool:=(((!(Z0z low)) || (!(Z0z high))) || (low.Inf == 1)) || (high.Inf == (-1))
structure RangeS (f:Form) (low high:Bound) (r:Range) (ok:Bool):Prop where
 none:ok = false→r = Range.mk 0 0 false false
 hi:ok = true→(r.HasHigh = true ↔ high.Inf = 0∧high.N≤1099511627776)
 lo:ok = true→(r.HasLow = true ↔ low.Inf = 0∧-1099511627776≤low.N)
 atH:ok = true→r.HasHigh = true→DownS f (max high.N (-1099511627776)) (r.High,true)
 atL:ok = true→r.HasLow = true→UpS f (min low.N 1099511627776) (r.Low,true)
 nhi:ok = true→r.HasHigh = false→r.High = 0
 nlo:ok = true→r.HasLow = false→r.Low = 0
 not:ok = false→(high.Inf = 0∧high.N≤1099511627776∧∀ i j,¬ Z7U f false (max high.N (-1099511627776)) i j)∨(low.Inf = 0∧-1099511627776≤low.N∧∀ i j,¬ Z7U f true (min low.N 1099511627776) i j)
def Near (f:Form) (m d:Int):Prop:=∃ i j,Z7U f false d i j∧m≤j - i
theorem Near.mono {f:Form} {m m' d d':Int} (h:Near f m d) (hm:m'≤m) (hd:d≤d'):Near f m' d':=by
 obtain ⟨i,j,h1,h2⟩:=h
 exact ⟨i,j,down_mono h1 hd,by omega⟩
def farI (m:Int):Int:=min (max m (-4611686018427387904)) 4611686018427387904
def LowD (f:Form) (m d:Int):Prop:=-1099511627776≤d∧d≤1099511627776∧(∀ z,-1099511627776≤z→z < d→¬ Near f m z)∧(d < 1099511627776→Near f m d)
def boundD (d:Int):Bound:=if d = -1099511627776 then ⟨-1,0⟩ else ⟨0,d⟩
theorem LowD.mono {f:Form} {m m' d d':Int} (h:LowD f m d) (h':LowD f m' d') (hm:m≤m'):d≤d':=by
 obtain ⟨a1,a2,a3,a4⟩:=h
 obtain ⟨b1,b2,b3,b4⟩:=h'
 by_cases hd:d≤d'
 ·exact hd
 ·exact absurd ((b4 (by omega)).mono hm (Y0P _)) (a3 d' b1 (by omega))
def boundH (d:Int):Bound:=if d = -1099511627776 then ⟨1,0⟩ else ⟨0,-d⟩
def goodB (x:Bound):Prop:=Z0z x = true∧x.N≤1099511627776∧-1099511627776≤x.N
end Go.Dn

namespace Go.Dn
open Go
theorem Z92 (x:Int):In64 (w64 x):=by unfold w64 In64;rw [Z5t];omega
theorem has_found {l:List Span} {t:Int} (hl:Len l):∃ b,Z4P l t = some b∧(b = true→∃ s ∈ l,s.From≤t∧t≤s.To):=by
 have hlen:(l.length:Int) < 4611686018427387904:=by have:=Z0e;unfold Len at hl;omega
 obtain ⟨r,h1,p,rfl,hp⟩:=Z0D (step:=Z5.s0 l t (fun z0 z1 => some (Z32 z0 z1)))
  (I:=fun s => ∃ i j:Nat,s = ((i:Int),(j:Int))∧i≤j∧j≤l.length)
  (fun s => (s.2 - s.1).toNat)
  (fun r => ∃ p:Nat,r = (p:Int)∧p≤l.length) (by
  rintro s ⟨i,j,rfl,hij,hj⟩;unfold Z5.s0
  by_cases hlt:i < j
  ·have hm:w64 ((IntKind.u64.wrap (w64 ((i:Int) + j))).fdiv (2 ^ 1)) = ((i + j) / 2:Nat):=by
    rw [ZD (x:=(i:Int) + j) (by omega),Z5e,Y0L _ (by decide),ZD (by omega)]
    omega
   have hml:(i + j) / 2 < l.length:=by omega
   simp only [hm];rw [ZT (show (i:Int) < j by omega),cond_true,at?_nat hml]
   simp only [Y0];refine .inl ?_
   by_cases hc:Z32 l[(i + j) / 2] t < 0
   ·rw [ZT hc];refine ⟨((((i + j) / 2 + 1:Nat):Int),(j:Int)),?_,⟨(i + j) / 2 + 1,j,rfl,by omega,hj⟩,by simp;omega⟩
    rw [ZD (by omega)];simp
   ·rw [Za hc];exact ⟨((i:Int),(((i + j) / 2:Nat):Int)),by simp,⟨i,(i + j) / 2,rfl,by omega,by omega⟩,by simp;omega⟩
  ·exact .inr ⟨(i:Int),by rw [Za (show ¬ (i:Int) < j by omega)];rfl,i,rfl,by omega⟩) (0,(l.length:Int)) ⟨0,l.length,rfl,YS _,YB _⟩
 unfold Z4P Z5
 rw [h1]
 simp only [Y0]
 by_cases hlt:p < l.length
 ·rw [ZT (show (p:Int) < l.length by omega),cond_true,at?_nat hlt]
  simp only [Y0,Bool.and_true];refine ⟨_,rfl,fun h => ⟨l[p],YY hlt,?_⟩⟩
  simp only [Y8] at h;have h:=eq_of_beq h.1
  unfold Z32 at h
  by_cases q1:l[p].To < t
  ·rw [ZT q1] at h;simp at h
  ·by_cases q2:l[p].From > t
   ·rw [Za q1,ZT q2] at h;simp at h
   ·omega
 ·rw [Za (show ¬ (p:Int) < l.length by omega),cond_false]
  simp only [Y0,Bool.and_false];exact ⟨false,rfl,fun h => by cases h⟩
def Z8g (f:Form):Form:=Form.mk f.Period f.Count f.Core []
theorem bareF_lim {f:Form} (h:Lim f):Lim (Z8g f):=⟨h.core,h.sets,by simp [Z8g],by simp [Z8g],h.count,h.period⟩
theorem bareF_shape {f:Form} (h:Shape f):Shape (Z8g f):=⟨h.count,h.zero,h.per,h.core,by simp [Z8g],by intro j k a b _ hj;simp [Z8g] at hj⟩
theorem place_tot {f:Form} (hl:Lim f) (t:Int):∃ r,Z8 f t = some r∧In64 r.1:=by
 have hlen:(f.Core.length:Int) < 4611686018427387904:=by have:=Z0e;have:=hl.core;omega
 obtain ⟨r,h1,h2⟩:=Z0D (step:=Z8.s0 f t)
  (I:=fun s => (∃ k:Nat,s.2.2 = (k:Int)∧k≤f.Core.length)∧In64 s.1)
  (fun s => f.Core.length - s.2.2.toNat) (fun r => In64 r.1) (by
  rintro ⟨at',ok,idx⟩ ⟨⟨k,hk,hle⟩,hi⟩;simp only at hk hi;subst hk;unfold Z8.s0;simp only
  by_cases hlt:k < f.Core.length
  ·refine .inl ?_;rw [ZT (show (k:Int) < f.Core.length by omega),cond_true,at?_nat hlt]
   simp only [Y0];rw [hull_eq (hl.sets _ (YY hlt)).1];simp only [Y0];have hw:w64 ((k:Int) + 1) = ((k + 1:Nat):Int):=by rw [ZD (by omega)];push_cast;rfl
   by_cases hn:f.Core[k] = []
   ·rw [if_pos hn];exact ⟨_,rfl,⟨⟨k + 1,hw,hlt⟩,hi⟩,by simp only [hw];omega⟩
   ·rw [if_neg hn];simp only [Yd,cond_false];unfold Z8H;rw [Z0v (Z92 _) hl.period];simp only [Y0];rw [pickB]
    split
    ·simp only [Y0,Jx.elim];exact ⟨_,rfl,⟨⟨k + 1,hw,hlt⟩,Z92 _⟩,by simp only [hw];omega⟩
    ·simp only [Y0,Jx.elim];exact ⟨_,rfl,⟨⟨k + 1,hw,hlt⟩,hi⟩,by simp only [hw];omega⟩
  ·refine .inr ⟨(at',ok),?_,hi⟩;rw [Za (show ¬ (k:Int) < f.Core.length by omega),cond_false]) (0,false,0) ⟨⟨0,rfl,YS _⟩,by unfold In64;simp⟩
 refine ⟨r,?_,h2⟩
 unfold Z8
 rw [h1]
 rfl
theorem plain_tot {f:Form} (hl:Lim f) (hs:Shape f) (t:Int):∃ r,Z1 f t = some r∧(r.2 = true→ZF r.1):=by
 obtain ⟨x1,e1,i1⟩:=place_tot hl t
 unfold Z1
 rw [e1]
 simp only [Y0]
 cases hx:x1.2 with
 | false => exact ⟨(0,false),rfl,fun h => by cases h⟩
 | true =>
 simp only [Yd,cond_false]
 have hlen:(f.Odd.length:Int) < 4611686018427387904:=by have:=Z0e;have:=hl.odd;omega
 obtain ⟨kv,e2,_⟩:=Z0D (step:=Z1.s0 f)
  (I:=fun s => ∃ k:Nat,s.1 = (k:Int)∧k≤f.Odd.length)
  (fun s => f.Odd.length - s.1.toNat) (fun _ => True) (by
  rintro ⟨idx,kv⟩ ⟨k,hk,hle⟩;simp only at hk;subst hk;unfold Z1.s0;simp only
  by_cases hlt:k < f.Odd.length
  ·have hw:w64 ((k:Int) + 1) = ((k + 1:Nat):Int):=by rw [ZD (by omega)];push_cast;rfl
   rw [ZT (show (k:Int) < f.Odd.length by omega),cond_true,at?_nat hlt]
   simp only [Y0];exact .inl ⟨_,rfl,⟨k + 1,hw,hlt⟩,by simp only [hw];omega⟩
  ·exact .inr ⟨kv,by rw [Za (show ¬ (k:Int) < f.Odd.length by omega),cond_false],trivial⟩) (0,[]) ⟨0,rfl,YS _⟩
 rw [e2]
 simp only [Y0]
 have bl:=bareF_lim hl
 have bs:=bareF_shape hs
 obtain ⟨x3,e3,a3⟩:=Z31 bl bs (i:=w64 (x1.1 - 1)) (Z92 _)
 rw [show Form.mk f.Period f.Count f.Core [] = Z8g f from rfl,e3]
 simp only [Y0]
 have tickA:∀ {i:Int} {r:Int × Bool},Above (Z8g f) i r→r.2 = true→i < r.1∧ZF r.1:=fun h hr => ⟨(h.tick hr).1,(h.tick hr).2.1⟩
 obtain ⟨y,e4,h4⟩:=Z0D (step:=Z1.s1 f kv)
  (I:=fun s => (s.2.1 = true→ZF s.1)∧0≤s.2.2∧s.2.2≤2)
  (fun s => if s.2.1 = true then (1099511627777 - s.1).toNat + 1 else 0)
  (fun y => ∀ r,y = .ret r→r.2 = true→ZF r.1) (by
  rintro ⟨i,ok,by_⟩ ⟨hi,hb0,hb2⟩;simp only at hi hb0 hb2;unfold Z1.s1;simp only;rw [show Form.mk f.Period f.Count f.Core [] = Z8g f from rfl]
  by_cases hc:ok = true∧by_ < 2
  ·obtain ⟨rfl,hb⟩:=hc
   have ti:=hi rfl
   rw [ZT hb];simp only [Y06,cond_true];obtain ⟨x5,e5,a5⟩:=Z31 bl bs (i:=i) (Z1H ti)
   have go:∀ b':Int,0≤b'→b'≤2→∃ s':Int × Bool × Int,(some (Sum.inl (x5.1,x5.2,b')):Option ((Int × Bool × Int) ⊕ Jx Unit (Int × Bool))) = some (.inl s')∧((s'.2.1 = true→ZF s'.1)∧0≤s'.2.2∧s'.2.2≤2) ∧
     (if s'.2.1 = true then (1099511627777 - s'.1).toNat + 1 else 0) < (1099511627777 - i).toNat + 1:=fun b' q1 q2 => by
    refine ⟨_,rfl,⟨fun h => (tickA a5 h).2,q1,q2⟩,?_⟩
    simp only
    split
    ·rename_i h;have:=tickA a5 h
     have t2:=this.2
     unfold ZF at t2 ti;omega
    ·omega
   obtain ⟨g,hg⟩ : ∃ g,Zy (Z8g f) i = some g:=⟨_,Z3i bl bs (Z1H ti)⟩
   rw [hg];simp only [Y0,if_true];have hwb:w64 (by_ + 1) = by_ + 1:=ZD (by omega)
   rw [hwb];cases hgc:(g.2 != 0) with
   | true =>
    simp only [cond_true,Y0,Jx.elim];rw [e5];simp only [Y0];exact .inl (go _ (by omega) (by omega))
   | false =>
    simp only [cond_false];cases hm:(mget kv i == 0) with
    | true =>
     simp only [cond_true,Y0,Jx.elim];exact .inr ⟨_,rfl,fun r hr _ => by cases hr;exact ti⟩
    | false =>
     simp only [cond_false,Y0,Jx.elim];rw [e5];simp only [Y0];exact .inl (go _ hb0 hb2)
  ·have:(ok && decide (by_ < 2)) = false:=by
    cases ok with
    | false => rfl
    | true => rw [Za (fun h => hc ⟨rfl,h⟩)];rfl
   rw [this,cond_false];exact .inr ⟨_,rfl,fun r hr => by cases hr⟩) (x3.1,x3.2,0) ⟨fun h => (tickA a3 h).2,by simp,by simp⟩
 rw [e4]
 simp only [Y0]
 cases y with
 | ret r => exact ⟨r,rfl,h4 r rfl⟩
 | go u => exact ⟨(0,false),rfl,fun h => by cases h⟩
theorem nearest_tot {f:Form} (hl:Lim f) (hs:Shape f) (t:Int):∃ r,Z4 f t = some r∧(r.2 = true→ZF r.1):=by
 obtain ⟨x1,e1,i1⟩:=plain_tot hl hs (iMax (iMin t 1099511627777) (-1099511627777))
 have hlen:(f.Odd.length:Int) < 4611686018427387904:=by have:=Z0e;have:=hl.odd;omega
 obtain ⟨r,e2,h2⟩:=Z0D (step:=Z4.s0 f t)
  (I:=fun s => (∃ k:Nat,s.2.2 = (k:Int)∧k≤f.Odd.length)∧(s.2.1 = true→ZF s.1))
  (fun s => f.Odd.length - s.2.2.toNat) (fun r => r.2 = true→ZF r.1) (by
  rintro ⟨i,ok,idx⟩ ⟨⟨k,hk,hle⟩,hi⟩;simp only at hk hi;subst hk;unfold Z4.s0;simp only
  by_cases hlt:k < f.Odd.length
  ·have hw:w64 ((k:Int) + 1) = ((k + 1:Nat):Int):=by rw [ZD (by omega)];push_cast;rfl
   have hm:f.Odd[k] ∈ f.Odd:=YY hlt
   rw [ZT (show (k:Int) < f.Odd.length by omega),cond_true,at?_nat hlt]
   simp only [Y0];obtain ⟨g,hg⟩ : ∃ g,Z21 f.Odd[k].Ticks = some g:=⟨_,hull_eq (hl.ticks _ hm).2.1⟩
   rw [hg];simp only [Y0];refine .inl ?_;rw [pickB]
   split
   ·simp only [Y0];exact ⟨_,rfl,⟨⟨k + 1,hw,hlt⟩,fun _ => (hs.odd _ hm).2⟩,by simp only [hw];omega⟩
   ·simp only [Y0];exact ⟨_,rfl,⟨⟨k + 1,hw,hlt⟩,hi⟩,by simp only [hw];omega⟩
  ·exact .inr ⟨(i,ok),by rw [Za (show ¬ (k:Int) < f.Odd.length by omega),cond_false],hi⟩) (x1.1,x1.2,0) ⟨⟨0,rfl,YS _⟩,i1⟩
 refine ⟨r,?_,h2⟩
 unfold Z4
 rw [e1]
 simp only [Y0]
 rw [e2]
 rfl
def Bears (f:Form) (i t:Int):Prop:=ZF i∧fits f i∧∃ s ∈ ZL f i,s.From≤t∧t≤s.To
theorem find_At_eq {f:Form} (hl:Lim f) (hs:Shape f) (t:Int):∃ r,Z5F f t = some r∧(r.2 = true→Bears f r.1 t)∧(r.2 = false→r.1 = 0):=by
 obtain ⟨x1,e1,i1⟩:=nearest_tot hl hs t
 unfold Z5F Z5S
 rw [e1]
 simp only [Y0]
 cases hx:x1.2 with
 | false => exact ⟨(0,false),rfl,(fun h => by cases h),fun _ => rfl⟩
 | true =>
 have ti:=i1 hx
 simp only [Yd,cond_false]
 rw [Z3i hl hs (Z1H ti)]
 simp only [Y0]
 by_cases hf:ZF x1.1∧fits f x1.1
 ·rw [if_pos hf];obtain ⟨b,e2,h2⟩:=has_found (l:=ZL f x1.1) (t:=t) (Z8P hl hs _)
  rw [e2];simp only [Y0];cases b with
  | false => exact ⟨(0,false),rfl,(fun h => by cases h),fun _ => rfl⟩
  | true => exact ⟨(x1.1,true),rfl,fun _ => ⟨hf.1,hf.2,h2 rfl⟩,(fun h => by cases h)⟩
 ·rw [if_neg hf];obtain ⟨b,e2,h2⟩:=has_found (l:=[]) (t:=t) (by unfold Len;simp)
  rw [e2];simp only [Y0];cases b with
  | false => exact ⟨(0,false),rfl,(fun h => by cases h),fun _ => rfl⟩
  | true => obtain ⟨s,hs,_⟩:=h2 rfl;cases hs
theorem Bears.ends {f:Form} (hs:Shape f) {i t:Int} (h:Bears f i t):ZL f i ≠ []∧fstT (ZL f i)≤t∧t≤lstT (ZL f i)∧ZF t:=by
 obtain ⟨h1,h2,s,h3,h4,h5⟩:=h
 have hr:=Z7g hs h2
 have hn:ZL f i ≠ []:=fun e => by rw [e] at h3;cases h3
 obtain ⟨k,hk,he⟩:=Yn h3
 have hlt:=hk
 have key:fstT (ZL f i)≤s.From∧s.To≤lstT (ZL f i):=by
  have h0:∀ (l:List Span),RightL l→∀ (s:Span),s ∈ l→fstT l≤s.From∧s.To≤lstT l:=by
   intro l
   induction l with
   | nil => intro _ s hs;cases hs
   | cons a l ih =>
    intro hr s hs;have ha:=hr.ok 0 a rfl
    have e1:fstT (a :: l) = a.From:=rfl
    cases l with
    | nil =>
     rw [YD] at hs;subst hs;exact ⟨by rw [e1];omega,by show s.To≤s.To;omega⟩
    | cons b l =>
     have hg:=hr.gap 0 a b rfl rfl
     have e2:lstT (a :: b :: l) = lstT (b :: l):=by unfold lstT;rw [List.getLast?_cons_cons]
     have hrt:=hr.tail
     rcases List.mem_cons.1 hs with rfl | hs
     ·have:=ih hrt b (by simp)
      have hb:=hrt.ok 0 b rfl
      refine ⟨by rw [e1];omega,by rw [e2];omega⟩
     ·have:=ih hrt s hs
      have e3:fstT (b :: l) = b.From:=rfl
      rw [e3] at this;refine ⟨by rw [e1];omega,by rw [e2];exact this.2⟩
  exact h0 _ hr s h3
 have hl:=lst_tick hr hn
 unfold ZF at *
 exact ⟨hn,by omega,by omega,by omega⟩
end Go.Dn

namespace Go.Dn
open Go
noncomputable def shiftF (f:Form) (m:Int):Form:=Form.mk f.Period f.Count ((List.range f.Core.length).map fun (j:Nat) => csz f ((j:Int) - m)) (f.Odd.map fun g => Granule.mk (g.Index + m) g.Ticks)
theorem raw_eq {f:Form} (hl:Lim f) (hs:Shape f) {i:Int} (hi:In64 i):(Z0w f i = some (csz f i,0)∧(∀ s ∈ csz f i,ZF s.From∧ZF s.To)∧Len (csz f i))∨Z0w f i = some ([],20):=by
 unfold Z0w
 have hcnt:=hs.count
 have len0:Len ([] : List Span):=by show ([] : List Span).length * 16≤reachBytes;simp
 by_cases h0:f.Count = 0
 ·rw [beq_t h0,cond_true];have:csz f i = []:=if_pos h0
  rw [this];exact .inl ⟨rfl,by simp,len0⟩
 ·have hp:0 < f.Count:=by omega
  rw [Z5D h0,cond_false,Z0v hi hl.count,Z2U hp];simp only [Y0];obtain ⟨c1,c2⟩:=Z0K hs h0 i
  rw [c1];simp only [Y0];have hcsz:csz f i = (Z0G f i).map (ZW (i / f.Count * f.Period)):=by rw [Z1o hp];rfl
  by_cases hn:Z0G f i = []
  ·rw [hcsz,hn];exact .inl ⟨rfl,by simp,len0⟩
  ·have hlen:¬ ((Z0G f i).length:Int) = 0:=by have:=List.length_pos_iff.2 hn;omega
   rw [Z5D hlen,cond_false];have hq:In64 (i / f.Count):=by
    unfold In64 at hi ⊢;have q1:i / f.Count≤9223372036854775807:=Y0f hp (by
     have:(9223372036854775807:Int) * 1≤9223372036854775807 * f.Count:=YW (by omega) (by decide)
     omega)
    have q2 : -9223372036854775808≤i / f.Count:=Y0g hp (by
     have:(9223372036854775808:Int) * 1≤9223372036854775808 * f.Count:=YW (by omega) (by decide)
     omega)
    exact ⟨q2,q1⟩
   rw [Z2w hq hl.period]
   rcases Z7c (i / f.Count * f.Period) with ⟨f1,f2⟩ | ⟨f1,f2⟩
   ·rw [f2];simp only [bne_self_eq_false,Bool.or_self,cond_false]
    rcases Z4k (hl.sets _ c2).1 (hl.sets _ c2).2 f1 with ⟨m1,m2⟩ | ⟨m1,m2⟩
    ·rw [m2]
     left
     rw [hcsz];refine ⟨rfl,fun s hs' => ?_,by unfold Len;rw [Yb];exact (hl.sets _ c2).1⟩
     obtain ⟨x,hx,rfl⟩:=List.mem_map.1 hs'
     exact m1 x hx
    ·rw [m2];exact .inr rfl
   ·rw [f2];exact .inr rfl
structure Bnd (f:Form):Prop where
 core:f.Core.length≤12
 odd:f.Odd.length≤8
 sets:∀ l ∈ f.Core,l.length≤720
 ticks:∀ g ∈ f.Odd,g.Ticks.length≤720
theorem ZAq {α:Type} (g:α→Nat):∀ {l:List α} {x:α},x ∈ l→g x≤(l.map g).sum
 | y :: l,x,h => by
  rw [Y05,List.sum_cons]
  rcases List.mem_cons.1 h with rfl | h
  ·omega
  ·have:=ZAq g h;omega
theorem sum_le {α:Type} (g:α→Nat) {b:Nat}:∀ {l:List α},(∀ x ∈ l,g x≤b)→(l.map g).sum≤l.length * b
 | [],_ => by simp
 | y :: l,h => by
  rw [Y05,List.sum_cons,Ye,Ym];have h1:=h y YM
  have h2:=sum_le g (l:=l) (b:=b) fun x hx => h x (YI _ hx)
  omega
theorem Z6M.bnd {f:Form} (h:Z6M f):Bnd f:=by
 obtain ⟨h1,h2,h3⟩:=h
 unfold Z5U at h3
 refine ⟨h1,h2,fun l hl => ?_,fun g hg => ?_⟩
 ·have:=ZAq List.length hl;omega
 ·have:=ZAq (fun g:Granule => g.Ticks.length) hg;omega
theorem Bnd.short {f:Form} (h:Bnd f):¬ Z5x f:=by
 have h1:=sum_le List.length h.sets
 have h2:=sum_le (fun g:Granule => g.Ticks.length) h.ticks
 have h3:=h.core
 have h4:=h.odd
 unfold Z5x Z5U
 have h5:f.Core.length * 720≤12 * 720:=YH _ h3
 have h6:f.Odd.length * 720≤8 * 720:=YH _ h4
 omega
theorem canonF_bnd {f c:Form} (h:Bnd f) (hc:Z1k f c):Bnd (Z1u f c):=by
 have hcore:c.Core.length≤12∧∀ l ∈ c.Core,l.length≤720:=by
  rcases hc with ⟨_,rfl⟩ | ⟨_,_,d,_,_,rfl⟩
  ·exact ⟨by simp,by simp⟩
  ·refine ⟨YX (List.length_take_le' _ _) h.core,fun l hl => h.sets l (Yl hl)⟩
 exact ⟨hcore.1,YX (Y0E _ _) h.odd,hcore.2,fun g hg => h.ticks g (List.mem_filter.1 hg).1⟩
end Go.Dn

namespace Go.Dn
open Go
theorem right13_eq {f:Form} (hl:Lim f):∃ b,Z1B f = some b∧(b = true ↔ Z6M f∧RightF f):=by
 unfold Z1B
 obtain ⟨b,hb,hbs⟩:=Z8X hl
 rw [hb]
 simp only [Y0]
 cases b with
 | false => exact ⟨false,rfl,fun h => (by cases h),fun h => by have:=hbs.2 h.1;cases this⟩
 | true =>
  have hsm:=hbs.1 rfl
  have hnl:¬ Z5x f:=by unfold Z5x;have:=hsm.1;have:=hsm.2.1;have:=hsm.2.2;omega
  rw [cond_true]
  rcases Z6Q hl with ⟨h,_⟩ | ⟨_,h1,h2⟩ | ⟨_,h1,h2⟩
  ·exact absurd h hnl
  ·rw [h2];exact ⟨true,rfl,fun _ => ⟨hsm,h1⟩,fun _ => rfl⟩
  ·rw [h2];exact ⟨false,rfl,fun h => (by cases h),fun h => absurd h.2 h1⟩
end Go.Dn

namespace Go.Dn
open Go
def seam (x s:Span):List Span:=if s.From = x.To + 1 then [⟨x.From,s.To⟩] else [x,s]
def glue (out l:List Span):List Span :=
 match out.getLast?,l with
 | some x,s :: l' => out.dropLast ++ (seam x s ++ l')
 | _,_ => out ++ l
theorem Z42 (a:List Span):glue a [] = a:=by
 unfold glue
 cases h:a.getLast? <;> simp
theorem Z35 (b:List Span):glue [] b = b:=by
 unfold glue
 cases b <;> simp
theorem Z2A (a:List Span) (x s:Span) (l:List Span):glue (a ++ [x]) (s :: l) = a ++ (seam x s ++ l):=by
 unfold glue
 simp
theorem Z5M {a:List Span} (h:a ≠ []):∃ b x,a = b ++ [x]:=⟨a.dropLast,a.getLast h,(List.dropLast_concat_getLast h).symm⟩
theorem glue_ne {a b:List Span}:glue a b = [] ↔ a = []∧b = []:=by
 by_cases ha:a = []
 ·subst ha;rw [Z35];simp
 ·obtain ⟨a',x,rfl⟩:=Z5M ha
  cases b with
  | nil => rw [Z42];simp
  | cons s l =>
   rw [Z2A];unfold seam
   split <;> simp
def gl (h:Int→List Span) (a:Int):Nat→List Span
 | 0 => []
 | n + 1 => glue (gl h a n) (h (a + n))
theorem gl_congr {h g:Int→List Span} {a b:Int} {n:Nat} (he:∀ j:Nat,j < n→h (a + j) = g (b + j)):gl h a n = gl g b n:=by
 induction n with
 | zero => rfl
 | succ n ih =>
  show glue (gl h a n) (h (a + n)) = glue (gl g b n) (g (b + n))
  rw [ih fun j hj => he j (by omega),he n (by omega)]
theorem gl_one (h:Int→List Span) (a:Int):gl h a 1 = h a:=by
 show glue [] (h (a + 0)) = h a
 rw [Z35,Int.add_zero]
theorem seam_shift (d:Int) (x s:Span):seam (ZW d x) (ZW d s) = (seam x s).map (ZW d):=by
 unfold seam
 by_cases h:s.From = x.To + 1
 ·rw [if_pos h,if_pos (by unfold ZW;simp only;omega)];rfl
 ·rw [if_neg h,if_neg (by unfold ZW;simp only;omega)];rfl
theorem glue_shift (d:Int) (a b:List Span):glue (a.map (ZW d)) (b.map (ZW d)) = (glue a b).map (ZW d):=by
 by_cases ha:a = []
 ·subst ha;rw [Z35,List.map_nil,Z35]
 ·obtain ⟨a',x,rfl⟩:=Z5M ha
  cases b with
  | nil => rw [Z42,List.map_nil,Z42]
  | cons s l =>
   rw [Z2A,Yw,Y05,List.map_nil,Y05,Z2A,seam_shift,Yw,Yw]
theorem gl_shift {h:Int→List Span} {d p:Int} (hp:∀ i,h (i + p) = (h i).map (ZW d)) (a:Int):∀ n:Nat,gl h (a + p) n = (gl h a n).map (ZW d)
 | 0 => rfl
 | n + 1 => by
  show glue (gl h (a + p) n) (h (a + p + n)) = (glue (gl h a n) (h (a + n))).map (ZW d)
  rw [gl_shift hp a n,show a + p + (n:Int) = a + n + p by omega,hp,glue_shift]
theorem glue_len (a b:List Span):(glue a b).length≤a.length + b.length:=by
 by_cases ha:a = []
 ·subst ha;rw [Z35];simp
 ·obtain ⟨a',x,rfl⟩:=Z5M ha
  cases b with
  | nil => rw [Z42];simp
  | cons s l =>
   rw [Z2A];unfold seam
   split <;> simp <;> omega
end Go.Dn

namespace Go.Dn
open Go
def Z0c (l:List Span):Prop:=∀ s ∈ l,ZF s.From∧ZF s.To
theorem ZCJ {a b:List Span} (ha:Z0c a) (hb:Z0c b):Z0c (glue a b):=by
 by_cases h:a = []
 ·subst h;rw [Z35];exact hb
 ·obtain ⟨a',x,rfl⟩:=Z5M h
  cases b with
  | nil => rw [Z42];exact ha
  | cons s l =>
   rw [Z2A];intro t ht;have hx:=ha x (by simp)
   have hs:=hb s (by simp)
   rcases List.mem_append.1 ht with h1 | h1
   ·exact ha t (YV _ h1)
   ·rcases List.mem_append.1 h1 with h2 | h2
    ·unfold seam at h2
     split at h2
     ·rw [YD] at h2;subst h2;exact ⟨hx.1,hs.2⟩
     ·rcases List.mem_cons.1 h2 with rfl | h2
      ·exact hx
      ·rw [YD] at h2;subst h2;exact hs
    ·exact hb t (YI _ h2)
theorem at?_last {a:List Span} {x:Span}:at? (a ++ [x]) (((a ++ [x]).length:Int) - 1) = some x:=by
 have h:=at?_nat (l:=a ++ [x]) (k:=a.length) (by simp)
 have e:(((a ++ [x]).length:Int) - 1) = (a.length:Int):=by simp
 rw [e,h]
 simp
theorem b0_eq {out l:List Span} {e:Int} (ho:out.length≤4000000) (hl:l.length≤4000000) (to:Z0c out) (tl:Z0c l):Zh.b0 (out,e) (l,0) = some ((glue out l,e),0):=by
 have hr:=Z4i
 unfold Zh.b0
 simp only [bne_self_eq_false,cond_false]
 by_cases h:out = []
 ·subst h;rw [Za (show ¬ ((([] : List Span).length:Int) > 0) by simp)]
  simp only [Y0V,cond_false,Y0];rw [app?_ok (by simp only [Yf];omega)]
  simp only [Y0,Jx.elim,Z35,List.nil_append]
 ·obtain ⟨a',x,rfl⟩:=Z5M h
  have hlen:((a' ++ [x]).length:Int) = a'.length + 1:=by simp
  have hlenN:(a' ++ [x]).length = a'.length + 1:=by simp
  cases l with
  | nil =>
   rw [Za (show ¬ ((([] : List Span).length:Int) > 0) by simp)]
   simp only [Bool.and_false,cond_false,Y0];rw [app?_ok (by simp only [Yf];omega)]
   simp only [Y0,Jx.elim,Z42,YO]
  | cons s l =>
   have hll:(s :: l).length = l.length + 1:=rfl
   have tx:=to x (by simp)
   unfold ZF at tx;rw [ZT (show ((a' ++ [x]).length:Int) > 0 by omega),ZT (show (((s :: l).length:Nat):Int) > 0 by rw [hll];omega)]
   simp only [Y06,cond_true];have e1:at? (s :: l) 0 = some s:=rfl
   have e2:at? (a' ++ [x]) (w64 (((a' ++ [x]).length:Int) - 1)) = some x:=by rw [ZD (by omega),at?_last]
   rw [e1];simp only [Y0];rw [e2];simp only [Y0];rw [ZD (x:=x.To + 1) (by omega)]
   by_cases hc:s.From = x.To + 1
   ·rw [beq_t hc];simp only [cond_true];have e3:cut? (s :: l) 1 (((s :: l).length:Nat):Int) = some l:=by
     unfold cut?;rw [if_pos (by rw [hll];omega)]
     simp
    rw [e3];simp only [Y0];have e4:(a' ++ [x]).set (w64 (((a' ++ [x]).length:Int) - 1)).toNat (Span.mk x.From s.To) = a' ++ [Span.mk x.From s.To]:=by
     rw [ZD (by omega),hlen,show ((a'.length:Int) + 1 - 1).toNat = a'.length by omega]
     simp
    rw [e4,app?_ok (by
     have:(a' ++ [Span.mk x.From s.To]).length = a'.length + 1:=by simp
     omega)]
    simp only [Y0,Jx.elim,Z2A];unfold seam;rw [if_pos hc]
    simp
   ·rw [Z5D hc];simp only [cond_false,Y0];rw [app?_ok (by omega)]
    simp only [Y0,Jx.elim,Z2A];unfold seam;rw [if_neg hc]
    simp
theorem Z9a {h:Int→List Span} {a:Int} {B:Nat}:∀ {n:Nat},(∀ j:Nat,j < n→(h (a + j)).length≤B∧Z0c (h (a + j)))→(gl h a n).length≤n * B∧Z0c (gl h a n)
 | 0,_ => ⟨by simp [gl],fun s hs => by cases hs⟩
 | n + 1,hh => by
  obtain ⟨h1,h2⟩:=Z9a (n:=n) fun j hj => hh j (by omega)
  obtain ⟨h3,h4⟩:=hh n (by omega)
  refine ⟨?_,ZCJ h2 h4⟩;have:=glue_len (gl h a n) (h (a + n))
  show (glue (gl h a n) (h (a + n))).length≤(n + 1) * B
  rw [Ym];omega
theorem ZBU {tell:Int→Option (List Span × Int)} {h:Int→List Span} {a:Int} {m B:Nat} (hm:m * B≤4000000) (hm2:m≤4000000) (hB:B≤4000000) (ha : -4611686018427387904≤a∧a≤4611686018427387904)
  (ht:∀ j:Nat,j < m→(tell (a + j) = some (h (a + j),0)∧(h (a + j)).length≤B∧Z0c (h (a + j)))∨tell (a + j) = some ([],20)) :
  (Zh tell a m = some (gl h a m,0)∧∀ j:Nat,j < m→(h (a + j)).length≤B∧Z0c (h (a + j))∧tell (a + j) = some (h (a + j),0)) ∨
  (Zh tell a m = some ([],20)∧∃ j:Nat,j < m∧tell (a + j) = some ([],20)):=by
 obtain ⟨r,q1,q2⟩:=Z0D (step:=Z0I.s0 m tell a (Z1G Zh.b0))
  (fun s => ∃ k:Nat,k≤m∧s = ((k:Int),((gl h a k,0),0))∧∀ j:Nat,j < k→(h (a + j)).length≤B∧Z0c (h (a + j))∧tell (a + j) = some (h (a + j),0))
  (fun s => m - s.1.toNat)
  (fun r => (r = .go ((gl h a m,0),0)∧∀ j:Nat,j < m→(h (a + j)).length≤B∧Z0c (h (a + j))∧tell (a + j) = some (h (a + j),0))∨((∃ o,r = .ret ((o,20),1))∧∃ j:Nat,j < m∧tell (a + j) = some ([],20))) (by
   rintro s ⟨k,hk,rfl,hall⟩;unfold Z0I.s0;simp only
   by_cases hlt:k < m
   ·rw [ZT (show (k:Int) < m by omega),cond_true,ZD (x:=a + (k:Int)) (by omega)]
    rcases ht k hlt with ⟨t1,t2,t3⟩ | t1
    ·left
     rw [t1];obtain ⟨g1,g2⟩:=Z9a (B:=B) (n:=k) fun j hj => ⟨(hall j hj).1,(hall j hj).2.1⟩
     have hkB:k * B≤m * B:=YH _ hk
     simp only [Y0,Z1G,if_true];rw [b0_eq (by omega) (by omega) g2 t3]
     simp only [Y9,Y0,beq_self_eq_true,Yd,cond_false];rw [ZD (x:=(k:Int) + 1) (by omega)]
     refine ⟨_,rfl,⟨k + 1,hlt,by push_cast;rfl,fun j hj => ?_⟩,by simp only;omega⟩
     by_cases hjk:j = k
     ·subst hjk;exact ⟨t2,t3,t1⟩
     ·exact hall j (by omega)
    ·right
     rw [t1];exact ⟨_,rfl,.inr ⟨⟨_,rfl⟩,k,hlt,t1⟩⟩
   ·right
    obtain rfl:k = m:=by omega
    rw [Za (by omega),cond_false]
    exact ⟨_,rfl,.inl ⟨rfl,hall⟩⟩) (0,(([],0),0)) ⟨0,YS _,rfl,fun j hj => absurd hj (Nat.not_lt_zero _)⟩
 unfold Zh Z0I
 simp only [Y0]
 rw [q1]
 rcases q2 with ⟨rfl,h1⟩ | ⟨⟨o,rfl⟩,h1⟩
 ·exact .inl ⟨rfl,h1⟩
 ·exact .inr ⟨rfl,h1⟩
end Go.Dn

namespace Go.Dn
open Go
structure BndB (f:Form) (B:Nat):Prop where
 core:f.Core.length≤12
 odd:f.Odd.length≤8
 sets:∀ l ∈ f.Core,l.length≤B
 ticks:∀ g ∈ f.Odd,g.Ticks.length≤B
theorem Bnd.b {f:Form} (h:Bnd f):BndB f 720:=⟨h.core,h.odd,h.sets,h.ticks⟩
theorem BndB.small {f:Form} {B:Nat} (h:BndB f B) (hB:B≤720):Bnd f:=⟨h.core,h.odd,fun l hl => YX (h.sets l hl) hB,fun g hg => YX (h.ticks g hg) hB⟩
theorem Z6M.b60 {f:Form} (h:Z6M f):BndB f 60:=by
 obtain ⟨h1,h2,h3⟩:=h
 unfold Z5U at h3
 refine ⟨h1,h2,fun l hl => ?_,fun g hg => ?_⟩
 ·have:=ZAq List.length hl;omega
 ·have:=ZAq (fun g:Granule => g.Ticks.length) hg;omega
theorem csz_lenB {f:Form} {B:Nat} (hs:Shape f) (h:BndB f B) (i:Int):(csz f i).length≤B:=by
 unfold csz
 by_cases h0:f.Count = 0
 ·rw [if_pos h0];simp
 ·rw [if_neg h0];unfold cs;rw [Yb];exact h.sets _ (Z0K hs h0 i).2
theorem setAt_lenB {f:Form} {B:Nat} (hs:Shape f) (h:BndB f B) (i:Int):(ZL f i).length≤B:=by
 by_cases ho:Z3P f i
 ·obtain ⟨x,hx,rfl⟩:=ho
  rw [Z18 hs.inc hx];exact h.ticks x hx
 ·rw [Z3l ho];exact csz_lenB hs h i
theorem rounds_eq {f:Form} (hs:Shape f) (h12:f.Core.length≤12) (h0:0 < f.Count) {m:Nat} (m1:1≤m) (m2:m≤6000):∃ u v:Nat,Z1Y f m = some ((v:Int),f.Count * u)∧f.Count * (u:Int) = v * m∧1≤u∧u≤m∧1≤v∧v≤12:=by
 have hcnt:=hs.count
 unfold Z1Y
 rw [Z5D (show ¬ f.Count = 0 by omega),cond_false,Z66 (by unfold In64;omega) (by unfold In64;omega)]
 simp only [Y0]
 obtain ⟨c,hc⟩ : ∃ c:Nat,f.Count = c:=⟨f.Core.length,hcnt⟩
 rw [hc] at h0 ⊢
 have hcl:c≤12:=by omega
 unfold lcmS
 rw [if_neg (by omega)]
 simp only [Int.natAbs_natCast]
 have g0:0 < Nat.gcd c m:=Y0I _ (by omega)
 obtain ⟨v,hv⟩:=Nat.gcd_dvd_left c m
 obtain ⟨u,hu⟩:=Nat.gcd_dvd_right c m
 generalize Nat.gcd c m = g at *
 have e1:c / g = v:=by rw [hv];exact Nat.mul_div_cancel_left v g0
 rw [e1]
 have v1:1≤v:=by
  rcases Y0K v with h | h
  ·rw [h] at hv;omega
  ·exact h
 have u1:1≤u:=by
  rcases Y0K u with h | h
  ·rw [h] at hu;omega
  ·exact h
 have vle:v≤c:=by rw [hv];exact Y0b v g0
 have ule:u≤m:=by rw [hu];exact Y0b u g0
 have e2:v * m = c * u:=by rw [hu,hv];exact (by rw [Nat.mul_comm v,Nat.mul_assoc,Nat.mul_comm u,← Nat.mul_assoc])
 have hb:v * m≤12 * 6000:=Y0X (by omega) m2
 have e3:((v:Int) * (m:Int)) = ((v * m:Nat):Int):=by push_cast;rfl
 rw [e3,ZAD (by unfold In64;omega)]
 simp only
 rw [nz?_ok (show (m:Int) ≠ 0 by omega)]
 simp only [Y0]
 have e4:((v * m:Nat):Int).tdiv (m:Int) = (v:Int):=by
  push_cast
  exact Int.mul_tdiv_cancel _ (by omega)
 rw [e4,ZD (by omega)]
 refine ⟨u,v,?_,?_,u1,ule,v1,by omega⟩
 ·rw [e2];push_cast;rfl
 ·have:=congrArg (fun n:Nat => (n:Int)) e2
  push_cast at this
  exact this.symm
theorem sum_loop {f:Form} {B:Nat} (h12:f.Core.length≤12) (hB:B≤8640) (hs:∀ l ∈ f.Core,l.length≤B):∃ z,loopO (Ze.s0 f) (0,0) = some z∧0≤z∧z≤12 * B:=by
 obtain ⟨r,q1,q2⟩:=Z0D (step:=Ze.s0 f) (fun s => ∃ (k z:Nat),k≤f.Core.length∧s = ((z:Int),(k:Int))∧z≤k * B) (fun s => f.Core.length - s.2.toNat) (fun r => 0≤r∧r≤12 * B) (by
  rintro s ⟨k,z,hk,rfl,hz⟩;unfold Ze.s0;simp only
  by_cases hlt:k < f.Core.length
  ·left
   rw [ZT (show (k:Int) < f.Core.length by omega),cond_true,at?_nat hlt]
   simp only [Y0];have hk12:k * B≤12 * B:=YH _ (by omega)
   have hlen:=hs _ (YY hlt)
   rw [ZD (x:=(k:Int) + 1) (by omega),ZD (x:=(z:Int) + (f.Core[k].length:Int)) (by omega)]
   exact ⟨_,rfl,⟨k + 1,z + f.Core[k].length,hlt,by push_cast;rfl,by rw [Ym];omega⟩,by simp only;omega⟩
  ·right
   have hk12:k * B≤12 * B:=YH _ (by omega)
   rw [Za (by omega),cond_false]
   exact ⟨_,rfl,by omega,by omega⟩) (0,0) ⟨0,0,YS _,rfl,by simp⟩
 exact ⟨r,q1,q2⟩
noncomputable def Z4I (f:Form) (m v:Nat):List (List Span):=(List.range v).map fun (i:Nat) => gl (csz f) ((i:Int) * m) m
theorem raw_tell {f:Form} {B:Nat} (hl:Lim f) (hs:Shape f) (hb:BndB f B) {i:Int} (hi:In64 i):(Z0Q i f = some (csz f i,0)∧(csz f i).length≤B∧Z0c (csz f i))∨Z0Q i f = some ([],20):=by
 unfold Z0Q
 rcases raw_eq hl hs hi with ⟨e,t,_⟩ | e
 ·rw [e];exact .inl ⟨rfl,csz_lenB hs hb i,t⟩
 ·rw [e];exact .inr rfl
theorem get_tell {f:Form} {B:Nat} (hl:Lim f) (hs:Shape f) (hb:BndB f B) {i:Int} (hi:In64 i):(Z0P i f = some (ZL f i,0)∧(ZL f i).length≤B∧Z0c (ZL f i))∨Z0P i f = some ([],20):=by
 unfold Z0P
 rw [Z3i hl hs hi]
 by_cases h:ZF i∧fits f i
 ·rw [if_pos h];exact .inl ⟨rfl,setAt_lenB hs hb i,h.2⟩
 ·rw [if_neg h];exact .inr rfl
theorem plain_core {f:Form} {B:Nat} (hl:Lim f) (hs:Shape f) (hb:BndB f B) {m u v:Nat} {p:Int} (m1:1≤m) (m2:m≤200) (hB:B≤8640) (hv:v≤12) (hp:(Z7 f.Period (w64 ((f.Count * (u:Int)).tdiv f.Count))).1 = p) :
  (loopO (Ze.s1 f m ((v:Int),f.Count * u)) (0,[]) = some (.go (Z4I f m v,p))∧∀ l ∈ Z4I f m v,l.length≤m * B∧Z0c l)∨(loopO (Ze.s1 f m ((v:Int),f.Count * u)) (0,[]) = some (.ret 20)∧∃ i j:Nat,i < v∧j < m∧Z0Q ((i:Int) * m + j) f = some ([],20)):=by
 have hmB:m * B≤200 * 8640:=Y0X m2 hB
 obtain ⟨r,q1,q2⟩:=Z0D (step:=Ze.s1 f m ((v:Int),f.Count * u))
  (fun s => ∃ k:Nat,k≤v∧s = ((k:Int),Z4I f m k)∧∀ l ∈ Z4I f m k,l.length≤m * B∧Z0c l)
  (fun s => v - s.1.toNat)
  (fun r => (r = .go (Z4I f m v,p)∧∀ l ∈ Z4I f m v,l.length≤m * B∧Z0c l)∨(r = .ret 20∧∃ i j:Nat,i < v∧j < m∧Z0Q ((i:Int) * m + j) f = some ([],20))) (by
   rintro s ⟨k,hk,rfl,hall⟩;unfold Ze.s1;simp only
   by_cases hlt:k < v
   ·have hkm:(k:Int) * m≤12 * 200:=by
     have:k * m≤12 * 200:=Y0X (by omega) m2
     have e:(k:Int) * m = ((k * m:Nat):Int):=by push_cast;rfl
     rw [e];omega
    have hkm0:0≤(k:Int) * m:=Y0H (by omega) (by omega)
    rw [ZT (show (k:Int) < v by omega),cond_true,ZD (x:=(k:Int) * m) (by omega)]
    rcases ZBU (tell:=fun z0 => Z0Q z0 f) (h:=csz f) (a:=(k:Int) * m) (m:=m) (B:=B) (by omega) (by omega) (by omega) (by omega) (fun j hj => raw_tell hl hs hb (by unfold In64;omega)) with ⟨g1,g2⟩ | ⟨g1,j,g2,g3⟩
    ·left
     rw [g1];simp only [Y0,bne_self_eq_false,cond_false];have hlen:(Z4I f m k).length = k:=by unfold Z4I;rw [Yb,Y0h]
     rw [app?_ok (by
      have:=Z4i
      simp only [Yu];omega)]
     simp only [Y0];rw [ZD (x:=(k:Int) + 1) (by omega)]
     have e:Z4I f m k ++ [gl (csz f) ((k:Int) * m) m] = Z4I f m (k + 1):=by unfold Z4I;rw [List.range_succ,Yw];rfl
     refine ⟨_,rfl,⟨k + 1,hlt,by rw [e];push_cast;rfl,fun l hl' => ?_⟩,by simp only;omega⟩
     rw [← e] at hl'
     rcases List.mem_append.1 hl' with h | h
     ·exact hall l h
     ·rw [YD] at h;subst h;exact Z9a (B:=B) (n:=m) fun j hj => ⟨(g2 j hj).1,(g2 j hj).2.1⟩
    ·right
     rw [g1];exact ⟨_,rfl,.inr ⟨rfl,k,j,hlt,g2,g3⟩⟩
   ·right
    obtain rfl:k = v:=by omega
    rw [Za (by omega),cond_false,hp]
    exact ⟨_,rfl,.inl ⟨rfl,hall⟩⟩) (0,[]) ⟨0,YS _,rfl,by simp [Z4I]⟩
 rcases q2 with ⟨rfl,h⟩ | ⟨rfl,h⟩
 ·exact .inl ⟨q1,h⟩
 ·exact .inr ⟨q1,h⟩
structure PlainG (f:Form) (m B:Nat) (g:Form):Prop where
 odd:g.Odd = []
 zero:f.Count = 0→g = Form.mk 0 0 [] []
 some:0 < f.Count→∃ u v:Nat,f.Count * (u:Int) = v * m∧1≤u∧u≤m∧1≤v∧v≤12∧g = Form.mk (f.Period * u) v (Z4I f m v) []
 sets:∀ l ∈ g.Core,l.length≤m * B∧Z0c l
 few:g.Core.length≤12
theorem plain_eq2 {f:Form} {B:Nat} (hl:Lim f) (hs:Shape f) (hb:BndB f B) {m:Nat} (m1:1≤m) (m2:m≤200) (hB:B≤8640) :
  ∃ g e,Ze f m = some (g,e)∧(e = 0→PlainG f m B g)∧(e ≠ 0→(e = 20∨e = 3)∧g = Form.mk 0 0 [] []):=by
 unfold Ze
 have hcnt:=hs.count
 have hper:=hs.per
 have hcore:=hb.core
 by_cases h0:f.Count = 0
 ·have:Z1Y f m = some (0,0):=by unfold Z1Y;rw [beq_t h0];rfl
  rw [this];refine ⟨_,_,rfl,fun _ => ⟨rfl,fun _ => rfl,fun h => by omega,by simp,by simp⟩,fun h => absurd rfl h⟩
 ·obtain ⟨u,v,r1,r2,u1,u2,v1,v2⟩:=rounds_eq hs hcore (by omega) m1 (by omega)
  rw [r1];simp only [Y0];rw [Z5D (show ¬ (v:Int) = 0 by omega),cond_false]
  obtain ⟨z,hz,_⟩:=sum_loop (B:=B) hcore hB hb.sets
  rw [hz];simp only [Y0];rw [nz?_ok h0];simp only [Y0];have ediv:(f.Count * (u:Int)).tdiv f.Count = u:=Int.mul_tdiv_cancel_left _ h0
  by_cases hbig:w64 (z * w64 ((f.Count * (u:Int)).tdiv f.Count)) > 60000
  ·rw [ZT hbig];exact ⟨_,_,rfl,fun h => (by cases h),fun _ => ⟨(by first | exact .inl rfl | exact .inr rfl),rfl⟩⟩
  ·rw [Za hbig];simp only [cond_false];have hmul:Z7 f.Period (w64 ((f.Count * (u:Int)).tdiv f.Count)) = (f.Period * u,0):=by
    rw [ediv,ZD (x:=(u:Int)) (by omega),Z2w (by unfold In64;omega) (by unfold In64;omega)]
    apply ZAD;have h1:0≤f.Period * (u:Int):=Y0H hper.1 (by omega)
    have h2:f.Period * (u:Int)≤1099511627776 * u:=YZ hper.2 (by omega)
    unfold In64;omega
   rw [hmul];simp only [bne_self_eq_false,Y0c]
   by_cases hp:f.Period * (u:Int) > 1099511627776
   ·rw [ZT hp];exact ⟨_,_,rfl,fun h => (by cases h),fun _ => ⟨(by first | exact .inl rfl | exact .inr rfl),rfl⟩⟩
   ·rw [Za hp];simp only [cond_false]
    rcases plain_core hl hs hb (m:=m) (u:=u) (v:=v) (p:=f.Period * u) m1 m2 hB v2 (by rw [hmul]) with ⟨c1,c2⟩ | ⟨c1,_⟩
    ·rw [c1];refine ⟨_,_,rfl,fun _ => ⟨rfl,fun h => absurd h h0,fun _ => ⟨u,v,r2,u1,u2,v1,v2,rfl⟩,c2,?_⟩,fun h => absurd rfl h⟩
     show (Z4I f m v).length≤12
     unfold Z4I;rw [Yb,Y0h];exact v2
    ·rw [c1];exact ⟨_,_,rfl,fun h => (by cases h),fun _ => ⟨(by first | exact .inl rfl | exact .inr rfl),rfl⟩⟩
end Go.Dn

namespace Go.Dn
open Go
structure OddsG (f:Form) (m B k:Nat) (O:List Granule):Prop where
 of:∀ g ∈ O,∃ x ∈ f.Odd.take k,g.Index = x.Index / m
 all:∀ x ∈ f.Odd.take k,∃ g ∈ O,g.Index = x.Index / m
 tick:∀ g ∈ O,g.Ticks = gl (ZL f) (g.Index * m) m∧g.Ticks.length≤m * B∧Z0c g.Ticks
 inc:O.Pairwise (fun a b => a.Index < b.Index)
 len:O.length≤k
theorem last_at {α:Type} {a:List α} {x:α} (h:a.length≤1000):at? (a ++ [x]) (w64 (((a ++ [x]).length:Int) - 1)) = some x:=by
 have h:=at?_nat (l:=a ++ [x]) (k:=a.length) (by simp)
 have e:(((a ++ [x]).length:Int) - 1) = (a.length:Int):=by simp
 rw [e,ZD (by omega),h]
 simp
theorem odds_loop {f:Form} {B:Nat} (hl:Lim f) (hs:Shape f) (hb:BndB f B) {m:Nat} (m1:1≤m) (m2:m≤200) (hB:B≤8640) :
  (∃ O,loopO (ZX.s0 f m) (0,[]) = some (.go O)∧OddsG f m B f.Odd.length O) ∨
  (loopO (ZX.s0 f m) (0,[]) = some (.ret (Form.mk 0 0 [] [],20))∧∃ x ∈ f.Odd,∃ j:Nat,j < m∧Z0P (x.Index / m * m + j) f = some ([],20)):=by
 have hmB:m * B≤200 * 8640:=Y0X m2 hB
 have hodd:=hb.odd
 have hm0:(0:Int) < m:=by omega
 obtain ⟨r,q1,q2⟩:=Z0D (step:=ZX.s0 f m)
  (fun s => ∃ (k:Nat) (O:List Granule),k≤f.Odd.length∧s = ((k:Int),O)∧OddsG f m B k O)
  (fun s => f.Odd.length - s.1.toNat)
  (fun r => (∃ O,r = .go O∧OddsG f m B f.Odd.length O)∨(r = .ret (Form.mk 0 0 [] [],20)∧∃ x ∈ f.Odd,∃ j:Nat,j < m∧Z0P (x.Index / m * m + j) f = some ([],20))) (by
   rintro s ⟨k,O,hk,rfl,hO⟩;unfold ZX.s0;simp only
   by_cases hlt:k < f.Odd.length
   ·have hmem:=YY hlt
    have htk:f.Odd.take (k + 1) = f.Odd.take k ++ [f.Odd[k]]:=(Y0R hlt).symm
    have hti:=(hs.odd _ hmem).2
    have hbefore:∀ y ∈ f.Odd.take k,y.Index < f.Odd[k].Index:=fun y hy => by
     obtain ⟨j,hj,rfl⟩:=Yn hy
     rw [List.getElem_take];rw [YQ] at hj;exact hs.inc j k _ _ (by omega) (Y2 (by omega)) (Y2 hlt)
    unfold ZF at hti;rw [ZT (show (k:Int) < f.Odd.length by omega),cond_true,at?_nat hlt]
    simp only [Y0];generalize f.Odd[k] = x at *
    rw [Z0v (by unfold In64;omega) (by unfold In64;omega),Z2U hm0]
    simp only [Y0];have q1:=Y02 x.Index m
    have q2:=Yk x.Index (show (m:Int) ≠ 0 by omega)
    have q3:=Yq x.Index hm0
    have hcond:∃ b:Bool,(bif (decide ((O.length:Int) > 0)) then (at? O (w64 ((O.length:Int) - 1))).bind fun x4 => some (x4.Index == x.Index / m) else some false) = some b ∧
      (b = true→∃ g ∈ O,g.Index = x.Index / m)∧(b = false→∀ g ∈ O,g.Index < x.Index / m):=by
     by_cases hn:O = []
     ·subst hn;exact ⟨false,rfl,fun h => (by cases h),fun _ g hg => by cases hg⟩
     ·have hb1:O = O.dropLast ++ [O.getLast hn]:=(List.dropLast_concat_getLast hn).symm
      have hlen:=hO.len
      have hp:=hO.inc
      have hle:∀ g ∈ O,g.Index≤x.Index / m:=fun g hg => by
       obtain ⟨y,hy,e⟩:=hO.of g hg
       rw [e];exact Int.ediv_le_ediv hm0 (Y0s (hbefore y hy))
      generalize O.dropLast = a at *
      generalize O.getLast hn = z at *
      subst hb1;have ha:a.length≤1000:=by rw [Yg] at hlen;omega
      rw [ZT (show (((a ++ [z]).length:Nat):Int) > 0 by simp),cond_true,last_at ha]
      simp only [Y0];refine ⟨_,rfl,fun h => ⟨z,by simp,by simpa using h⟩,fun h g hg => ?_⟩
      have hz:z.Index ≠ x.Index / m:=by simpa using h
      have hz2:=hle z (by simp)
      rw [List.pairwise_append] at hp
      rcases List.mem_append.1 hg with h1 | h1
      ·have:=hp.2.2 g h1 z (by simp);omega
      ·rw [YD] at h1;subst h1;omega
    obtain ⟨b,b1,b2,b3⟩:=hcond
    rw [b1];simp only [Y0];cases b with
    | true =>
     left
     obtain ⟨g,g1,g2⟩:=b2 rfl
     simp only [cond_true,Y0,Jx.elim];rw [ZD (x:=(k:Int) + 1) (by omega)]
     refine ⟨_,rfl,⟨k + 1,O,hlt,by push_cast;rfl,?_,?_,hO.tick,hO.inc,by have:=hO.len;omega⟩,by simp only;omega⟩
     ·intro y hy;obtain ⟨w,w1,w2⟩:=hO.of y hy
      exact ⟨w,by rw [htk];exact YV _ w1,w2⟩
     ·intro y hy;rw [htk] at hy
      rcases List.mem_append.1 hy with h | h
      ·exact hO.all y h
      ·rw [YD] at h;subst h;exact ⟨g,g1,g2⟩
    | false =>
     have b4:=b3 rfl
     simp only [cond_false];have hqm:x.Index / m * m = x.Index - x.Index % m:=by rw [Y0G];omega
     rw [ZD (x:=x.Index / m * m) (by omega)]
     rcases ZBU (tell:=fun z0 => Z0P z0 f) (h:=ZL f) (a:=x.Index / m * m) (m:=m) (B:=B) (by omega) (by omega) (by omega) (by omega) (fun j hj => get_tell hl hs hb (by unfold In64;omega)) with ⟨g1,g2⟩ | ⟨g1,j,g2,g3⟩
     ·left
      rw [g1];simp only [Y0,bne_self_eq_false,cond_false];have hlen:=hO.len
      rw [app?_ok (by
       have:=Z4i
       simp only [Yu];omega)]
      simp only [Y0,Jx.elim];rw [ZD (x:=(k:Int) + 1) (by omega)]
      obtain ⟨f1,f2⟩:=Z9a (h:=ZL f) (a:=x.Index / m * m) (B:=B) (n:=m) fun j hj => ⟨(g2 j hj).1,(g2 j hj).2.1⟩
      refine ⟨_,rfl,⟨k + 1,_,hlt,by push_cast;rfl,?_,?_,?_,?_,by rw [Yg,Yu];omega⟩,by simp only;omega⟩
      ·intro y hy
       rcases List.mem_append.1 hy with h | h
       ·obtain ⟨w,w1,w2⟩:=hO.of y h
        exact ⟨w,by rw [htk];exact YV _ w1,w2⟩
       ·rw [YD] at h;subst h;exact ⟨x,by rw [htk];exact Yh _ (List.mem_singleton.2 rfl),rfl⟩
      ·intro y hy;rw [htk] at hy
       rcases List.mem_append.1 hy with h | h
       ·obtain ⟨g,g3,g4⟩:=hO.all y h
        exact ⟨g,YV _ g3,g4⟩
       ·rw [YD] at h;subst h;exact ⟨_,Yh _ (List.mem_singleton.2 rfl),rfl⟩
      ·intro y hy
       rcases List.mem_append.1 hy with h | h
       ·exact hO.tick y h
       ·rw [YD] at h;subst h;exact ⟨rfl,f1,f2⟩
      ·rw [List.pairwise_append];refine ⟨hO.inc,by simp,fun a ha c hc => ?_⟩
       rw [YD] at hc;subst hc;exact b4 a ha
     ·right
      rw [g1];exact ⟨_,rfl,.inr ⟨rfl,x,hmem,j,g2,g3⟩⟩
   ·right
    obtain rfl:k = f.Odd.length:=by omega
    rw [Za (by omega),cond_false]
    exact ⟨_,rfl,.inl ⟨O,rfl,hO⟩⟩) (0,[]) ⟨0,[],YS _,rfl,by simp,by simp,by simp,by simp,by simp⟩
 rcases q2 with ⟨O,rfl,h⟩ | ⟨rfl,h⟩
 ·exact .inl ⟨O,q1,h⟩
 ·exact .inr ⟨q1,h⟩
end Go.Dn

namespace Go.Dn
open Go
structure GroupG (f:Form) (m B:Nat) (F:Form):Prop where
 csz:∀ i,csz F i = gl (csz f) (i * m) m
 set:∀ i,ZL F i = gl (ZL f) (i * m) m
 bnd:BndB F (m * B)
theorem quot_tick {n p:Int} (hp:0 < p) (hn:ZF n):ZF (n / p):=by
 unfold ZF at *
 constructor
 ·exact Y0g hp (by
   have:(1099511627776:Int) * 1≤1099511627776 * p:=YW (by omega) (by decide)
   omega)
 ·exact Y0f hp (by
   have:(1099511627776:Int) * 1≤1099511627776 * p:=YW (by omega) (by decide)
   omega)
theorem gl_none {h:Int→List Span} (hn:∀ i,h i = []) (a:Int):∀ n:Nat,gl h a n = []
 | 0 => rfl
 | n + 1 => by
  show glue (gl h a n) (h (a + n)) = []
  rw [gl_none hn a n,hn,Z35]
theorem groupG_of {f g:Form} {m B:Nat} {O:List Granule} (hs:Shape f) (m1:1≤m) (hP:PlainG f m B g) (hO:OddsG f m B f.Odd.length O) (hF:Shape (Form.mk g.Period g.Count g.Core O)) (h8:f.Odd.length≤8) :
  GroupG f m B (Form.mk g.Period g.Count g.Core O):=by
 have hm0:(0:Int) < m:=by omega
 have hcnt:=hs.count
 have hz:∀ i,Go.Dn.csz (Form.mk g.Period g.Count g.Core O) i = gl (Go.Dn.csz f) (i * m) m:=fun i => by
  by_cases h0:f.Count = 0
  ·have e:=hP.zero h0
   subst e;have hn:∀ j,Go.Dn.csz f j = []:=fun j => if_pos h0
   rw [gl_none hn];exact if_pos rfl
  ·obtain ⟨u,v,r2,u1,u2,v1,v2,e⟩:=hP.some (by omega)
   subst e;have hv0:(v:Int) ≠ 0:=by omega
   rw [Z1o (show (0:Int) < v by omega)]
   show (Z0G _ i).map (ZW (i / (v:Int) * (f.Period * u))) = _
   have i0:=Yk i hv0
   have i1:=Yq i (show (0:Int) < v by omega)
   have e1:Z0G (Form.mk (f.Period * (u:Int)) (v:Int) (Z4I f m v) O) i = gl (Go.Dn.csz f) (i % v * m) m:=by
    show (Z4I f m v).getD (i % (v:Int)).toNat [] = _
    unfold Z4I;rw [YL,YN,List.getElem?_range (by omega)]
    simp only [Y9,Y0T];rw [Y0J i0]
   have e2:i * m = i % v * m + f.Count * (u * (i / v)):=by
    have h1:=Y02 i v
    have h2:f.Count * (u * (i / v)) = v * m * (i / v):=by rw [← Y03,r2]
    rw [h2]
    conv => lhs;rw [← h1]
    rw [Y0Z,Y03,Y03,Y0G (i / v) (m:Int)]
   rw [e1,e2];have sh:∀ j,Go.Dn.csz f (j + f.Count * (u * (i / v))) = (Go.Dn.csz f j).map (ZW (u * (i / v) * f.Period)):=fun j => by
    rw [Z1o (by omega)]
    exact Z5j h0 j _
   rw [gl_shift sh]
   congr 2
   rw [Y0G f.Period,← Y03,Y0G (i / (v:Int)) (u:Int)]
 refine ⟨hz,fun i => ?_,⟨hP.few,YX hO.len h8,fun l hl => (hP.sets l hl).1,fun x hx => (hO.tick x hx).2.1⟩⟩
 by_cases ho:Z3P (Form.mk g.Period g.Count g.Core O) i
 ·obtain ⟨x,hx,rfl⟩:=ho
  rw [Z18 hF.inc hx,(hO.tick x hx).1]
 ·rw [Z3l ho,hz];refine gl_congr fun j hj => ?_
  refine (Z3l fun hx => ho ?_).symm
  obtain ⟨x,hx,e⟩:=hx
  obtain ⟨y,hy,e2⟩:=hO.all x (by rw [Y0F];exact hx)
  refine ⟨y,hy,?_⟩;rw [e2,e,Int.add_comm,Int.add_mul_ediv_right _ _ (by omega),Int.ediv_eq_zero_of_lt (by omega) (by omega),Int.zero_add]
theorem group_eq2 {f:Form} {B:Nat} (hl:Lim f) (hs:Shape f) (hb:BndB f B) {m:Nat} (m1:1≤m) (m2:m≤200) (hB:B≤8640) :
  ∃ g e,ZX f m = some (g,e)∧(e = 0→∃ F,GroupG f m B F∧Lim F∧RightF F∧¬ Z5x F∧ZZ F = some g)∧(e ≠ 0→(e = 20∨e = 3)∧g = Form.mk 0 0 [] []):=by
 have hmB:m * B≤200 * 8640:=Y0X m2 hB
 unfold ZX
 rw [Za (show ¬ (m:Int) < 1 by omega),Za (show ¬ (m:Int) > 6000 by omega)]
 simp only [Bool.or_self,cond_false]
 obtain ⟨p,e,p1,p2,p3⟩:=plain_eq2 hl hs hb m1 m2 hB
 rw [p1]
 simp only [Y0]
 by_cases he:e = 0
 ·have hP:=p2 he
  subst he;simp only [bne_self_eq_false,cond_false]
  rcases odds_loop hl hs hb m1 m2 hB with ⟨O,o1,hO⟩ | ⟨o1,_⟩
  ·rw [o1];simp only [Y0,Jx.elim];generalize hFF:Form.mk p.Period p.Count p.Core O = F;have lim:Lim F:=by
    rw [← hFF];have r:=Z0e
    have l8:=hO.len
    have h8:=hb.odd
    have h12:=hP.few
    have hper:=hs.per
    have s64:∀ {l:List Span},Z0c l→Sp64 l:=fun {l} h s hs' => ⟨Z1H (h s hs').1,Z1H (h s hs').2⟩
    refine ⟨?_,fun l hl' => ⟨?_,s64 (hP.sets l hl').2⟩,?_,fun g hg => ⟨?_,?_,s64 (hO.tick g hg).2.2⟩,?_,?_⟩
    ·show p.Core.length * 24≤reachBytes
     omega
    ·have:=(hP.sets l hl').1
     unfold Len;omega
    ·show O.length * 32≤reachBytes
     omega
    ·obtain ⟨x,hx,e⟩:=hO.of g hg
     have hx':=(hs.odd x (Yl hx)).2
     have h1:=Y02 x.Index m
     have h2:=Yk x.Index (show (m:Int) ≠ 0 by omega)
     have h3:=Yq x.Index (show (0:Int) < m by omega)
     have h4:=quot_tick (n:=x.Index) (p:=(m:Int)) (by omega) hx'
     rw [e];exact Z1H h4
    ·have:=(hO.tick g hg).2.1
     unfold Len;omega
    ·show In64 p.Count
     by_cases h0:f.Count = 0
     ·rw [hP.zero h0];unfold In64;simp
     ·obtain ⟨u,v,_,_,_,_,v2,e⟩:=hP.some (by have:=hs.count;omega)
      rw [e];unfold In64;simp only;omega
    ·show In64 p.Period
     by_cases h0:f.Count = 0
     ·rw [hP.zero h0];unfold In64;simp
     ·obtain ⟨u,v,_,_,u2,_,_,e⟩:=hP.some (by have:=hs.count;omega)
      rw [e];have h1:0≤f.Period * (u:Int):=Y0H hper.1 (by omega)
      have h2:f.Period * (u:Int)≤1099511627776 * u:=YZ hper.2 (by omega)
      unfold In64;simp only;omega
   unfold Z1F
   rcases Z6Q lim with ⟨_,h⟩ | ⟨hnl,h3,h4⟩ | ⟨_,_,h⟩
   ·rw [h];exact ⟨_,_,rfl,fun h => (by cases h),fun _ => ⟨(by first | exact .inl rfl | exact .inr rfl),rfl⟩⟩
   ·rw [h4];simp only [Y0,beq_self_eq_true,cond_true];obtain ⟨c,_,hc⟩:=Z2i lim h3.shape
    rw [hc];refine ⟨_,_,rfl,fun _ => ⟨F,?_,lim,h3,hnl,hc⟩,fun h => absurd rfl h⟩
    rw [← hFF] at h3 ⊢;exact groupG_of hs m1 hP hO h3.shape hb.odd
   ·rw [h];exact ⟨_,_,rfl,fun h => (by cases h),fun _ => ⟨(by first | exact .inl rfl | exact .inr rfl),rfl⟩⟩
  ·rw [o1];exact ⟨_,_,rfl,fun h => (by cases h),fun _ => ⟨(by first | exact .inl rfl | exact .inr rfl),rfl⟩⟩
 ·have:(e != 0) = true:=by simpa using he
  rw [this];exact ⟨_,_,rfl,fun h => absurd h he,fun _ => ⟨(p3 he).1,rfl⟩⟩
end Go.Dn

namespace Go.Dn
open Go
end Go.Dn

namespace Go.Dn
open Go
def insG:Bool→List Int→Int→List Int
 | p,[],x => if p then [] else [x]
 | p,y :: l,x => if y = x then y :: insG true l x else if p then y :: insG true l x else if x < y then x :: y :: insG true l x else y :: insG false l x
end Go.Dn

namespace Go.Dn
open Go
def hasT (l:List Span) (t:Int):Prop:=∃ u ∈ l,u.From≤t∧t≤u.To
def midT (l:List Span):Prop:=∀ u ∈ l,-4611686018427387904≤u.From∧u.From≤4611686018427387904∧-4611686018427387904≤u.To∧u.To≤4611686018427387904
def isPl (l:List Span) (z:Int):Prop:=∃ u ∈ l,z = u.From∨z = u.To + 1
end Go.Dn

namespace Go.Dn
open Go
def AheadA (a b:List Span):Prop:=∀ x ∈ a,∀ y ∈ b,x.To < y.From
theorem Z8x {l:List Span} (h:RightL l) {s:Span} (hs:s ∈ l):fstT l≤s.From∧s.From≤s.To∧s.To≤lstT l:=by
 induction l generalizing s with
 | nil => cases hs
 | cons a l ih =>
  have h0:=h.ok 0 a rfl
  cases l with
  | nil =>
   rw [YD] at hs;subst hs;exact ⟨Y0P _,h0.2.2,Y0P _⟩
  | cons b l =>
   have hg:=h.gap 0 a b rfl rfl
   have e1:fstT (a :: b :: l) = a.From:=rfl
   have e2:lstT (a :: b :: l) = lstT (b :: l):=by unfold lstT;simp
   have e3:fstT (b :: l) = b.From:=rfl
   have hb:=ih h.tail (s:=b) YM
   rw [e1,e2]
   rcases List.mem_cons.1 hs with rfl | hs
   ·refine ⟨Y0P _,h0.2.2,?_⟩;omega
   ·have:=ih h.tail hs
    omega
end Go.Dn

namespace Go.Dn
open Go
def dst (i b k:Int):Int:=(k - i) * b
def NextS (f:Form) (i b:Int) (r:Int × Bool):Prop:=(r.2 = true∧0≤dst i b r.1∧ZF r.1∧ZL f r.1 ≠ []∧∀ k,0≤dst i b k→ZF k→ZL f k ≠ []→dst i b r.1≤dst i b k)∨(r.2 = false∧r.1 = 0∧∀ k,0≤dst i b k→ZF k→ZL f k = [])
end Go.Dn

namespace Go.Dn
open Go
end Go.Dn

namespace Go.Dn
open Go
def fullK (f:Form) (k:Nat):List (List Span):=(f.Core.take k).filter (fun l => decide (l.length > 0))
def ChainL (F:List (List Span)):Prop:=∀ (k:Nat) (a b:List Span),F[k]? = some a→F[k + 1]? = some b→lstT a < fstT b
end Go.Dn

namespace Go.Dn
open Go
def ordS (f:Form) (last:List Span):List Int→Prop
 | [] => True
 | x :: l => (ZF x∧fits f x)∧AheadA last (ZL f x)∧ordS f (if ZL f x = [] then last else ZL f x) l
end Go.Dn

namespace Go.Dn
open Go
end Go.Dn

namespace Go.Dn
open Go
def bareG (i:Int):Granule:=⟨i,[]⟩
end Go.Dn

namespace Go.Dn
open Go
def Z7N (l:List Span):Prop:=l.Pairwise (fun x y => x.To + 1 < y.From)∧∀ s ∈ l,s.From≤s.To
theorem normL_nil:Z7N []:=⟨List.Pairwise.nil,fun s h => by cases h⟩
theorem normL_init {o:List Span} {y:Span} (h:Z7N (o ++ [y])):Z7N o∧y.From≤y.To∧∀ s ∈ o,s.To + 1 < y.From:=by
 obtain ⟨p1,p2,p3⟩:=List.pairwise_append.1 h.1
 exact ⟨⟨p1,fun s hs => h.2 s (YV _ hs)⟩,h.2 y (by simp),fun s hs => p3 s hs y (by simp)⟩
theorem hasT_app {a b:List Span} {t:Int}:hasT (a ++ b) t ↔ hasT a t∨hasT b t:=by
 unfold hasT
 constructor
 ·rintro ⟨u,hu,h⟩
  rcases List.mem_append.1 hu with hu | hu
  ·exact .inl ⟨u,hu,h⟩
  ·exact .inr ⟨u,hu,h⟩
 ·rintro (⟨u,hu,h⟩ | ⟨u,hu,h⟩)
  ·exact ⟨u,YV _ hu,h⟩
  ·exact ⟨u,Yh _ hu,h⟩
theorem hasT_cons {x:Span} {b:List Span} {t:Int}:hasT (x :: b) t ↔ (x.From≤t∧t≤x.To)∨hasT b t:=by
 unfold hasT
 constructor
 ·rintro ⟨u,hu,h⟩
  rcases List.mem_cons.1 hu with rfl | hu
  ·exact .inl h
  ·exact .inr ⟨u,hu,h⟩
 ·rintro (h | ⟨u,hu,h⟩)
  ·exact ⟨x,YM,h⟩
  ·exact ⟨u,YI _ hu,h⟩
theorem hasT_nil {t:Int}:¬ hasT [] t:=fun ⟨u,hu,_⟩ => by cases hu
theorem Z9V:∀ {l:List Span},RightL l→Z7N l
 | [],_ => normL_nil
 | x :: l,h => by
  obtain ⟨p1,p2⟩:=Z9V h.tail
  refine ⟨List.pairwise_cons.2 ⟨fun y hy => ?_,p1⟩,fun s hs => ?_⟩
  ·have h1:=(Z8x h.tail hy).1
   cases l with
   | nil => cases hy
   | cons z l =>
    have h2:=h.gap 0 x z rfl rfl
    have h3:fstT (z :: l) = z.From:=rfl
    omega
  ·rcases List.mem_cons.1 hs with rfl | hs
   ·exact (h.ok 0 _ rfl).2.2
   ·exact p2 s hs
theorem glue_norm {a b:List Span} (ha:Z7N a) (hb:Z7N b) (ho:∀ x ∈ a,∀ y ∈ b,x.To < y.From):Z7N (glue a b)∧∀ t,hasT (glue a b) t ↔ hasT a t∨hasT b t:=by
 by_cases h:a = []
 ·subst h;rw [Z35];exact ⟨hb,fun t => ⟨.inr,fun h => h.resolve_left hasT_nil⟩⟩
 obtain ⟨a',x,rfl⟩:=Z5M h
 cases b with
 | nil =>
  rw [Z42];exact ⟨ha,fun t => ⟨.inl,fun h => h.resolve_right hasT_nil⟩⟩
 | cons s l =>
  obtain ⟨q1,q2,q3⟩:=normL_init ha
  obtain ⟨b1,b2⟩:=List.pairwise_cons.1 hb.1
  have hs:=hb.2 s YM
  have hxs:=ho x (by simp) s YM
  have hl:∀ y ∈ l,y.From≤y.To:=fun y hy => hb.2 y (YI _ hy)
  rw [Z2A];unfold seam
  by_cases hc:s.From = x.To + 1
  ·rw [if_pos hc];refine ⟨⟨List.pairwise_append.2 ⟨q1.1,List.pairwise_cons.2 ⟨b1,b2⟩,fun p hp q hq => ?_⟩,fun p hp => ?_⟩,fun t => ?_⟩
   ·have h1:=q3 p hp
    rcases List.mem_cons.1 hq with rfl | hq
    ·exact h1
    ·have:=b1 q hq;omega
   ·rcases List.mem_append.1 hp with hp | hp
    ·exact q1.2 p hp
    ·rcases List.mem_cons.1 hp with rfl | hp
     ·show x.From≤s.To;omega
     ·exact hl p hp
   ·have:(x.From≤t∧t≤s.To) ↔ (x.From≤t∧t≤x.To)∨(s.From≤t∧t≤s.To):=by omega
    simp only [hasT_app,hasT_cons,hasT_nil,or_false,or_assoc,this]
  ·rw [if_neg hc];have e:a' ++ ([x,s] ++ l) = (a' ++ [x]) ++ (s :: l):=by simp
   rw [e];refine ⟨⟨List.pairwise_append.2 ⟨ha.1,hb.1,fun p hp q hq => ?_⟩,fun p hp => ?_⟩,fun t => hasT_app⟩
   ·have hpx:p.To + 1 < x.From∨p = x:=by
     rcases List.mem_append.1 hp with hp | hp
     ·exact .inl (q3 p hp)
     ·rw [YD] at hp;exact .inr hp
    have hqs:s.To + 1 < q.From∨q = s:=by
     rcases List.mem_cons.1 hq with hq | hq
     ·exact .inr hq
     ·exact .inl (b1 q hq)
    rcases hpx with h1 | rfl <;> rcases hqs with h2 | rfl <;> omega
   ·rcases List.mem_append.1 hp with hp | hp
    ·exact ha.2 p hp
    ·exact hb.2 p hp
theorem glue_to {a b:List Span} {x:Span} (h:x ∈ glue a b):(∃ s ∈ a,s.To = x.To)∨∃ s ∈ b,s.To = x.To:=by
 by_cases ha:a = []
 ·subst ha;rw [Z35] at h;exact .inr ⟨x,h,rfl⟩
 obtain ⟨a',y,rfl⟩:=Z5M ha
 cases b with
 | nil => rw [Z42] at h;exact .inl ⟨x,h,rfl⟩
 | cons s l =>
  rw [Z2A] at h
  rcases List.mem_append.1 h with h | h
  ·exact .inl ⟨x,YV _ h,rfl⟩
  ·rcases List.mem_append.1 h with h | h
   ·unfold seam at h
    split at h
    ·rw [YD] at h;subst h;exact .inr ⟨s,YM,rfl⟩
    ·rcases List.mem_cons.1 h with rfl | h
     ·exact .inl ⟨x,by simp,rfl⟩
     ·rw [YD] at h;subst h;exact .inr ⟨x,YM,rfl⟩
   ·exact .inr ⟨x,YI _ h,rfl⟩
theorem gl_to {h:Int→List Span} {a:Int} {x:Span}:∀ {n:Nat},x ∈ gl h a n→∃ j:Nat,j < n∧∃ s ∈ h (a + j),s.To = x.To
 | 0,hx => by cases hx
 | n + 1,hx => by
  rcases glue_to hx with ⟨s,hs,e⟩ | ⟨s,hs,e⟩
  ·obtain ⟨j,h1,u,h2,h3⟩:=gl_to hs
   exact ⟨j,by omega,u,h2,by rw [h3,e]⟩
  ·exact ⟨n,by omega,s,hs,e⟩
end Go.Dn

namespace Go.Dn
open Go
abbrev UnS:=((List Span) × (List Span) × (List Span) × Int × Bool) × Nat
noncomputable def unStep:Bool × Bool × UnS→Option ((Bool × Bool × UnS) ⊕ Jx UnS UnS) :=
 Z3V.s0 (S:=UnS) (fun s => s.1.2.2.1) (fun s v => ((s.1.1,s.1.2.1,v,s.1.2.2.2.1,s.1.2.2.2.2),s.2)) (fun s => s.1.2.1) (fun s v => ((s.1.1,v,s.1.2.2.1,s.1.2.2.2.1,s.1.2.2.2.2),s.2)) (Z1G (Z7L.b0 (fun z0 z1 => some (Z8e z0 z1))))
def unSt (iA iB:Bool) (out a b:List Span) (f:Int) (i:Bool):Bool × Bool × UnS:=(iA,iB,((out,b,a,f,i),0))
noncomputable def unAt (iA iB:Bool) (a b:List Span):Option Int :=
 bif ((a.length:Int) == 0) then (Z12 b iB).bind fun x1 => some x1
 else (bif ((b.length:Int) == 0) then (Z12 a iA).bind fun x2 => some x2
  else (Z12 a iA).bind fun x3 => (Z12 b iB).bind fun x4 => some (iMin x3 x4))
theorem un_go {s s':Bool × Bool × UnS} (h:unStep s = some (.inl s')):loopO unStep s = loopO unStep s':=by
 rw [Z4v,h]
def UnEnds (s:Bool × Bool × UnS) (out:List Span):Prop:=∃ f i,loopO unStep s = some (.go ((out,[],[],f,i),0))
theorem UnEnds.step {s s':Bool × Bool × UnS} {out:List Span} (h:unStep s = some (.inl s')) (h2:UnEnds s' out):UnEnds s out:=by
 obtain ⟨f,i,e⟩:=h2
 exact ⟨f,i,by rw [un_go h];exact e⟩
theorem norm_tail {s:Span} {l:List Span} (h:Z7N (s :: l)):Z7N l∧s.From≤s.To∧∀ t ∈ l,s.To + 1 < t.From :=
 ⟨⟨(List.pairwise_cons.1 h.1).2,fun x hx => h.2 x (YI _ hx)⟩,h.2 s YM,(List.pairwise_cons.1 h.1).1⟩
end Go.Dn

namespace Go.Dn
open Go
noncomputable def shapeRun (k:Int):Bool :=
 match Z0j Z3 k with
 | some (g,e) => (e == 0) && (match Zp Z3 g with
   | some (b,n,e) => (b == [0]) && (n == k) && (e == 0)
   | none => false) && (match Z0h Z3 g (1 - k) 1 3 with
   | some (_,e) => e == 0
   | none => false)
 | none => false
theorem shape_runs:((List.range 20).all fun j => shapeRun ((j:Int) + 1)) = true:=by kernel_rfl
noncomputable def halfRun:Bool :=
 match Zp Z3 (Form.mk 2 Z3.Count Z3.Core Z3.Odd) with
 | some (_,_,e) => e == 51
 | none => false
theorem shape_days {k:Int} (h1:1≤k) (h2:k≤20):∃ g x,ZX Z3 k = some (g,0)∧ZJ Z3 g = some ([0],k,0)∧ZR Z3 g (1 - k) 1 3 = some x∧x.2 = 0:=by
 have h:=shape_runs
 rw [YF] at h
 have h:=h (k - 1).toNat (by rw [List.mem_range];omega)
 rw [show (((k - 1).toNat:Nat):Int) + 1 = k by omega] at h
 unfold shapeRun at h
 cases hg:Z0j Z3 k with
 | none => rw [hg] at h;cases h
 | some y =>
  obtain ⟨g,e⟩:=y
  rw [hg] at h;simp only [Y8] at h;obtain ⟨⟨q1,q2⟩,q3⟩:=h
  have e0:=eq_of_beq q1
  subst e0;cases hp:Zp Z3 g with
  | none => rw [hp] at q2;cases q2
  | some y =>
   obtain ⟨b,n,e⟩:=y
   rw [hp] at q2;simp only [Y8] at q2;obtain ⟨⟨p1,p2⟩,p3⟩:=q2
   have b0:=eq_of_beq p1
   have n0:=eq_of_beq p2
   have e0:=eq_of_beq p3
   subst b0 n0 e0;cases hF:Z0h Z3 g (1 - n) 1 3 with
   | none => rw [hF] at q3;cases q3
   | some y =>
    rw [hF] at q3;exact ⟨g,y,Z6H _ hg,Z4K _ hp,Z7S _ hF,eq_of_beq q3⟩
end Go.Dn

namespace Go.Dn
open Go
def Z0t (f:Form):Prop:=0 < f.Count∧f.Odd = []∧∀ l ∈ f.Core,l ≠ []
theorem Z9o {f:Form} (hl:Lim f):∃ b,Z0O f = some b∧(b = true ↔ Z0t f):=by
 have hcl:(f.Core.length:Int) < 4611686018427387904:=Z2n (b:=23) hl.core
 unfold Z0O
 rcases Z4D (l:=f.Core) (step:=Z0O.s0 f) (good:=fun _ l => l ≠ []) (no:=.ret false) (yes:=.go ()) (fun k x hx _ => by
  obtain ⟨hk,rfl⟩:=List.getElem?_eq_some_iff.1 hx
  unfold Z0O.s0;rw [ZT (show (k:Int) < f.Core.length by omega),cond_true,at?_nat hk]
  simp only [Y0]
  by_cases hn:f.Core[k] = []
  ·right
   rw [hn];exact ⟨rfl,fun h => h rfl⟩
  ·left
   have:=List.length_pos_iff.2 hn
   rw [Z5D (by omega),cond_false,ZD (by omega)]
   exact ⟨rfl,hn⟩) (by
  unfold Z0O.s0;rw [Za (by omega),cond_false]) with ⟨e,h⟩ | ⟨e,h⟩
 ·rw [e];refine ⟨_,rfl,?_⟩;unfold Z0t;have hall:∀ l ∈ f.Core,l ≠ []:=fun l hl' => by
   obtain ⟨k,hk⟩:=YC hl'
   exact h k l hk
  rw [Y8,decide_eq_true_iff,beq_iff_eq]
  constructor
  ·rintro ⟨h1,h2⟩;exact ⟨h1,Yz (by omega),hall⟩
  ·rintro ⟨h1,h2,_⟩;exact ⟨h1,by rw [h2];rfl⟩
 ·rw [e];refine ⟨false,rfl,fun h' => (by cases h'),fun h' => ?_⟩
  exact absurd (fun k x hx => h'.2.2 x (Y6 hx)) h
theorem Z4z {f:Form} (hs:Shape f) (hw:Z0t f) (i:Int):csz f i ≠ []:=by
 have h0:f.Count ≠ 0:=by have:=hw.1;omega
 rw [Z1o hw.1]
 unfold cs
 intro h
 exact hw.2.2 _ (Z0K hs h0 i).2 (List.map_eq_nil_iff.1 h)
theorem csz_right {f:Form} (hs:Shape f) {i:Int} (t:Z0c (csz f i)):RightL (csz f i):=by
 by_cases h0:f.Count = 0
 ·have:csz f i = []:=if_pos h0
  rw [this];exact ⟨by simp,by simp⟩
 ·have e:csz f i = (Z0G f i).map (ZW (i / f.Count * f.Period)):=by rw [Z1o (by have:=hs.count;omega)];rfl
  rw [e] at t ⊢;refine (hs.core _ (Z0K hs h0 _).2).shift fun s hs' => ?_
  exact t _ (List.mem_map.2 ⟨s,hs',rfl⟩)
open Classical in
theorem ZAd {f:Form} (hl:Lim f) (hs:Shape f) {i:Int} (hi:In64 i):Z0w f i = some (if Z0c (csz f i) then (csz f i,0) else ([],20)):=by
 have hcnt:=hs.count
 have t0:Z0c []:=fun s h => by cases h
 unfold Z0w
 by_cases h0:f.Count = 0
 ·have e:csz f i = []:=if_pos h0
  rw [beq_t h0,cond_true,e,if_pos t0]
 ·have hp:0 < f.Count:=by omega
  rw [Z5D h0,cond_false,Z0v hi hl.count,Z2U hp];simp only [Y0];obtain ⟨c1,c2⟩:=Z0K hs h0 i
  rw [c1];simp only [Y0];have hcsz:csz f i = (Z0G f i).map (ZW (i / f.Count * f.Period)):=by rw [Z1o hp];rfl
  by_cases hn:Z0G f i = []
  ·rw [hcsz,hn];rw [if_pos (show Z0c (List.map (ZW (i / f.Count * f.Period)) []) from t0)]
   rfl
  ·have hlen:¬ ((Z0G f i).length:Int) = 0:=by have:=List.length_pos_iff.2 hn;omega
   rw [Z5D hlen,cond_false];have hq:In64 (i / f.Count):=by
    unfold In64 at hi ⊢;have q1:i / f.Count≤9223372036854775807:=Y0f hp (by
     have:(9223372036854775807:Int) * 1≤9223372036854775807 * f.Count:=YW (by omega) (by decide)
     omega)
    have q2 : -9223372036854775808≤i / f.Count:=Y0g hp (by
     have:(9223372036854775808:Int) * 1≤9223372036854775808 * f.Count:=YW (by omega) (by decide)
     omega)
    exact ⟨q2,q1⟩
   have hsl:=hl.sets _ c2
   have hiff:Z0c (csz f i) ↔ ∀ s ∈ Z0G f i,ZF (s.From + i / f.Count * f.Period)∧ZF (s.To + i / f.Count * f.Period):=by
    rw [hcsz]
    constructor
    ·intro h s hs';exact h _ (List.mem_map.2 ⟨s,hs',rfl⟩)
    ·intro h s hs';obtain ⟨x,hx,rfl⟩:=List.mem_map.1 hs'
     exact h x hx
   rw [Z2w hq hl.period]
   rcases Z7c (i / f.Count * f.Period) with ⟨f1,f2⟩ | ⟨f1,f2⟩
   ·rw [f2];simp only [bne_self_eq_false,Bool.or_self,cond_false]
    rcases Z4k hsl.1 hsl.2 f1 with ⟨m1,m2⟩ | ⟨m1,m2⟩
    ·rw [m2,if_pos (hiff.2 m1),hcsz];rfl
    ·rw [m2,if_neg (fun h => m1 (hiff.1 h))];rfl
   ·rw [f2,if_neg]
    ·rfl
    ·intro h;rw [hiff] at h;obtain ⟨s0,hs0⟩:=List.exists_mem_of_ne_nil _ hn
     obtain ⟨k,hk⟩:=YC hs0
     have h1:=((hs.core _ c2).ok k s0 hk).1
     have h2:=(h s0 hs0).1
     unfold ZF at h1 h2;unfold In64 at f1;omega
theorem norm_len {hi:Int}:∀ {l:List Span} {lo:Int},Z7N l→(∀ s ∈ l,lo≤s.From∧s.To≤hi)→l = []∨(l.length:Int)≤hi - lo + 1
 | [],_,_,_ => .inl rfl
 | x :: l,lo,hn,h => by
  obtain ⟨n1,n2,n3⟩:=norm_tail hn
  have hx:=h x YM
  right
  have hlen:(((x :: l).length:Nat):Int) = (l.length:Int) + 1:=by simp
  rcases norm_len (lo:=lo + 1) n1 (fun s hs => ⟨by have:=n3 s hs;omega,(h s (YI _ hs)).2⟩) with rfl | h2
  ·simp;omega
  ·omega
theorem tick_len {l:List Span} (hn:Z7N l) (ht:Z0c l):l.length≤2199023255553:=by
 rcases norm_len (lo:=-1099511627776) (hi:=1099511627776) hn (fun s hs => by have:=ht s hs;unfold ZF at this;omega) with rfl | h
 ·simp
 ·omega
def AllT (f:Form) (a:Int) (n:Nat):Prop:=∀ j:Nat,j < n→Z0c (csz f (a + j))
theorem gl_norm {f:Form} (hs:Shape f) (ht:Turns f) (a:Int):∀ {n:Nat},AllT f a n→Z7N (gl (csz f) a n)∧Z0c (gl (csz f) a n)
 | 0,_ => ⟨normL_nil,fun s h => by cases h⟩
 | n + 1,h => by
  obtain ⟨h1,h2⟩:=gl_norm hs ht a (n:=n) fun j hj => h j (by omega)
  have tn:=h n (by omega)
  have rn:=csz_right hs tn
  refine ⟨(glue_norm h1 (Z9V rn) fun x hx y hy => ?_).1,ZCJ h2 tn⟩
  obtain ⟨j,j1,s,s1,s2⟩:=gl_to hx
  have rj:=csz_right hs (h j (by omega))
  have n1:csz f (a + (j:Int)) ≠ []:=List.ne_nil_of_mem s1
  have n2:csz f (a + (n:Int)) ≠ []:=List.ne_nil_of_mem hy
  have:=ZAh hs ht (show a + (j:Int) < a + n by omega) n1 n2
  have h3:=Z8x rj s1
  have h4:=Z8x rn hy
  omega
open Classical in
theorem Z58 {f:Form} (hl:Lim f) (hr:RightF f) (hnl:¬ Z5x f) (hw:Z0t f) {a b:Int} (ha:In64 a) (hb:In64 b) :
  Zl f a b = some (if AllT f a (b - a).toNat then (gl (csz f) a (b - a).toNat,0) else ([],20)):=by
 have hs:=hr.shape
 have hro:=Z4i
 unfold In64 at ha hb
 have hl60:∀ l ∈ f.Core,l.length≤60000:=fun l hl' => by
  have:=ZAq List.length hl'
  unfold Z5x Z5U at hnl;omega
 have hcl:∀ i,(csz f i).length≤60000:=fun i => by
  rw [Z1o hw.1];unfold cs;rw [Yb];exact hl60 _ (Z0K hs (by have:=hw.1;omega) i).2
 obtain ⟨r,q1,q2⟩:=Z0D (step:=Zl.s0 f b)
  (fun s => ∃ k:Nat,k≤(b - a).toNat∧s = (a + k,gl (csz f) a k)∧AllT f a k)
  (fun s => (b - s.1).toNat)
  (fun r => (r = .go (gl (csz f) a (b - a).toNat)∧AllT f a (b - a).toNat)∨(r = .ret ([],20)∧¬ AllT f a (b - a).toNat)) (by
   rintro s ⟨k,hk,rfl,hall⟩;unfold Zl.s0;simp only
   by_cases hlt:a + (k:Int) < b
   ·have hkn:k < (b - a).toNat:=by omega
    rw [ZT hlt,cond_true,ZAd hl hs (i:=a + (k:Int)) (by unfold In64;omega)]
    by_cases tk:Z0c (csz f (a + (k:Int)))
    ·left
     rw [if_pos tk];simp only [Y0,bne_self_eq_false,cond_false];have hall':AllT f a (k + 1):=fun j hj => by
      by_cases hjk:j = k
      ·subst hjk;exact tk
      ·exact hall j (by omega)
     obtain ⟨g1,g2⟩:=gl_norm hs hr.turns a hall
     have gl1:=tick_len g1 g2
     have cl1:=hcl (a + k)
     have hne:=Z4z hs hw (a + k)
     have fin:∃ s':Int × List Span,(some (.inl (a + (k:Int) + 1,glue (gl (csz f) a k) (csz f (a + k)))):Option ((Int × List Span) ⊕ Jx (List Span) (List Span × Int))) = some (.inl s')∧(∃ k':Nat,k'≤(b - a).toNat∧s' = (a + k',gl (csz f) a k')∧AllT f a k')∧(b - s'.1).toNat < (b - (a + (k:Int))).toNat :=
      ⟨_,rfl,⟨k + 1,hkn,by push_cast;rw [← Int.add_assoc];rfl,hall'⟩,by simp only;omega⟩
     generalize hC:csz f (a + (k:Int)) = C at *
     generalize gl (csz f) a k = out at *
     obtain ⟨s,l,rfl⟩:=List.exists_cons_of_ne_nil hne
     have hll:(s :: l).length = l.length + 1:=rfl
     by_cases ho:out = []
     ·subst ho;rw [ZD (x:=(([] : List Span).length:Int) - 1) (by simp),Za (show ¬ (([] : List Span).length:Int) - 1 ≥ 0 by simp),cond_false]
      simp only [Y0,cond_false];rw [app?_ok (by simp only [Yf];omega),ZD (x:=a + (k:Int) + 1) (by omega)]
      simp only [Y0,Jx.elim,List.nil_append];rw [Z35] at fin;exact fin
     ·obtain ⟨a',x,rfl⟩:=Z5M ho
      have hlen:((a' ++ [x]).length:Int) = a'.length + 1:=by simp
      have hlenN:(a' ++ [x]).length = a'.length + 1:=by simp
      have tx:=g2 x (by simp)
      unfold ZF at tx;rw [ZD (x:=((a' ++ [x]).length:Int) - 1) (by omega),ZT (show ((a' ++ [x]).length:Int) - 1 ≥ 0 by omega),cond_true]
      have e1:at? (s :: l) 0 = some s:=rfl
      have e2:at? (a' ++ [x]) (((a' ++ [x]).length:Int) - 1) = some x:=at?_last
      rw [e1];simp only [Y0];rw [e2];simp only [Y0];rw [ZD (x:=x.To + 1) (by omega)]
      rw [Z2A] at fin;unfold seam at fin
      by_cases hc:s.From = x.To + 1
      ·rw [beq_t hc];rw [if_pos hc] at fin;simp only [cond_true];have e3:cut? (s :: l) 1 (((s :: l).length:Nat):Int) = some l:=by
        unfold cut?;rw [if_pos (by rw [hll];omega)]
        simp
       rw [e3];simp only [Y0];have e4:(a' ++ [x]).set (((a' ++ [x]).length:Int) - 1).toNat (Span.mk x.From s.To) = a' ++ [Span.mk x.From s.To]:=by
        rw [hlen,show ((a'.length:Int) + 1 - 1).toNat = a'.length by omega]
        simp
       rw [e4,app?_ok (by
        have:(a' ++ [Span.mk x.From s.To]).length = a'.length + 1:=by simp
        omega),ZD (x:=a + (k:Int) + 1) (by omega)]
       simp only [Y0,Jx.elim];rw [Yx];exact fin
      ·rw [Z5D hc];rw [if_neg hc] at fin;simp only [cond_false,Y0];rw [app?_ok (by omega),ZD (x:=a + (k:Int) + 1) (by omega)]
       simp only [Y0,Jx.elim];rw [Yx];exact fin
    ·right
     rw [if_neg tk];exact ⟨_,rfl,.inr ⟨rfl,fun h => tk (h k hkn)⟩⟩
   ·right
    obtain rfl:k = (b - a).toNat:=by omega
    rw [Za hlt,cond_false];exact ⟨_,rfl,.inl ⟨rfl,hall⟩⟩) (a,[]) ⟨0,YS _,by simp [gl],fun j hj => absurd hj (Nat.not_lt_zero _)⟩
 unfold Zl
 rw [q1]
 rcases q2 with ⟨rfl,h⟩ | ⟨rfl,h⟩
 ·rw [if_pos h];rfl
 ·rw [if_neg h];rfl
end Go.Dn

namespace Go.Dn
open Go
theorem whole_setAt {f:Form} (hw:Z0t f) (i:Int):ZL f i = csz f i :=
 Z3l fun ⟨g,hg,_⟩ => by rw [hw.2.1] at hg;cases hg
def upIx (f:Form) (t:Int) (r:Nat):Int:=-((lstT (f.Core.getD r []) - t) / f.Period) * f.Count + r
end Go.Dn

namespace Go.Dn
open Go
theorem per_pos {f:Form} (hs:Shape f) (hw:Z0t f):0 < f.Period:=by
 have h0:f.Count ≠ 0:=by have:=hw.1;omega
 have h1:f.Period ≠ 0:=fun h => h0 (hs.zero.2 h)
 have:=hs.per
 omega
theorem turn14_eq {f C:Form} (hlf:Lim f) (hsf:Shape f) (hwf:Z0t f) (hlC:Lim C) (hsC:Shape C) (hwC:Z0t C) :
  Z3d f C = some (0,0,3)∨∃ a b:Int,1≤a∧1≤b∧a * C.Period = b * f.Period∧Z3d f C = some (C.Count * a,f.Count * b,0)∧C.Count * a≤6000∧f.Count * b≤60000:=by
 have pf:=per_pos hsf hwf
 have pC:=per_pos hsC hwC
 have hpf:=hsf.per
 have hpC:=hsC.per
 have cf:=hwf.1
 have cC:=hwC.1
 unfold Z3d
 rw [Z66 hlf.period hlC.period]
 unfold lcmS
 rw [if_neg (by omega)]
 obtain ⟨P,hP⟩ : ∃ P:Nat,f.Period = P:=⟨f.Period.toNat,by omega⟩
 obtain ⟨Q,hQ⟩ : ∃ Q:Nat,C.Period = Q:=⟨C.Period.toNat,by omega⟩
 rw [hP] at pf hpf
 rw [hQ] at pC hpC
 rw [hP,hQ]
 simp only [Int.natAbs_natCast,Y0]
 have g0:0 < Nat.gcd P Q:=Y0I _ (by omega)
 obtain ⟨u,hu⟩:=Nat.gcd_dvd_left P Q
 obtain ⟨v,hv⟩:=Nat.gcd_dvd_right P Q
 generalize Nat.gcd P Q = g at *
 have e1:P / g = u:=by rw [hu];exact Nat.mul_div_cancel_left u g0
 have u1:1≤u:=by
  rcases Y0K u with h | h
  ·rw [h] at hu;omega
  ·exact h
 have v1:1≤v:=by
  rcases Y0K v with h | h
  ·rw [h] at hv;omega
  ·exact h
 have hcross:u * Q = v * P:=by rw [hu,hv,Nat.mul_comm g v,Nat.mul_comm g u,← Nat.mul_assoc,← Nat.mul_assoc,Nat.mul_comm u v]
 have hcrossI:((u:Int) * (Q:Int)) = (v:Int) * (P:Int):=by
  have:=congrArg (fun n:Nat => (n:Int)) hcross
  push_cast at this
  exact this
 have ub:u≤P:=by rw [hu];exact Y0b u g0
 have vb:v≤Q:=by rw [hv];exact Y0b v g0
 rw [e1]
 rcases Z7c ((u:Int) * (Q:Int)) with ⟨f1,f2⟩ | ⟨f1,f2⟩
 ·rw [f2];simp only [bne_self_eq_false,cond_false];rw [nz?_ok (show (Q:Int) ≠ 0 by omega),nz?_ok (show (P:Int) ≠ 0 by omega)]
  simp only [Y0];have d1:((u:Int) * (Q:Int)).tdiv (Q:Int) = u:=Int.mul_tdiv_cancel _ (by omega)
  have d2:((u:Int) * (Q:Int)).tdiv (P:Int) = v:=by rw [hcrossI];exact Int.mul_tdiv_cancel _ (by omega)
  rw [d1,d2,ZD (x:=(u:Int)) (by omega),ZD (x:=(v:Int)) (by omega),Z2w hlC.count (by unfold In64;omega),Z2w hlf.count (by unfold In64;omega)]
  rcases Z7c (C.Count * (u:Int)) with ⟨g1,g2⟩ | ⟨g1,g2⟩
  ·rcases Z7c (f.Count * (v:Int)) with ⟨h1,h2⟩ | ⟨h1,h2⟩
   ·rw [g2,h2];simp only [bne_self_eq_false,Bool.or_self,Y0c]
    by_cases hb:C.Count * (u:Int) > 6000∨f.Count * (v:Int) > 60000
    ·left
     have:(decide (C.Count * (u:Int) > 6000) || decide (f.Count * (v:Int) > 60000)) = true:=by
      simp only [Yj,decide_eq_true_eq];exact hb
     rw [this];rfl
    ·right
     rw [Za (show ¬ C.Count * (u:Int) > 6000 by omega),Za (show ¬ f.Count * (v:Int) > 60000 by omega)]
     exact ⟨u,v,by omega,by omega,hcrossI,rfl,by omega,by omega⟩
   ·left;rw [g2,h2];rfl
  ·left;rw [g2];rfl
 ·left
  rw [f2]
  rfl
theorem glue_fst {a b:List Span} (ha:a ≠ []):fstT (glue a b) = fstT a:=by
 obtain ⟨a',x,rfl⟩:=Z5M ha
 cases b with
 | nil => rw [Z42]
 | cons s l =>
  rw [Z2A];cases a' with
  | nil =>
   unfold seam
   split <;> rfl
  | cons z a' => rfl
theorem gl_fst {h:Int→List Span} {a:Int} (hn:h a ≠ []):∀ {n:Nat},1≤n→gl h a n ≠ []∧fstT (gl h a n) = fstT (h a)
 | 1,_ => by rw [gl_one];exact ⟨hn,rfl⟩
 | n + 2,_ => by
  obtain ⟨h1,h2⟩:=gl_fst hn (n:=n + 1) (by omega)
  show glue (gl h a (n + 1)) (h (a + ((n + 1:Nat):Int))) ≠ []∧fstT (glue (gl h a (n + 1)) (h (a + ((n + 1:Nat):Int)))) = _
  rw [glue_fst h1,h2];exact ⟨fun h => h1 (glue_ne.1 h).1,rfl⟩
structure MadeOf (f C:Form) (β:Int→Int):Prop where
 up:∀ i,β i < β (i + 1)
 set:∀ i,csz C i = gl (csz f) (β i) (β (i + 1) - β i).toNat
 near:∀ i,0≤i→i≤6001→-1000000≤β i∧β i≤1000000
theorem MadeOf.head {f C:Form} {β:Int→Int} (h:MadeOf f C β) (hsf:Shape f) (hwf:Z0t f) (i:Int):fstT (csz C i) = fstT (csz f (β i)):=by
 have:=h.up i
 rw [h.set]
 exact (gl_fst (Z4z hsf hwf _) (by omega)).2
theorem fst_inj {f:Form} (hs:Shape f) (ht:Turns f) (hw:Z0t f) {i j:Int} (h:fstT (csz f i) = fstT (csz f j)):i = j:=by
 have key:∀ {i j:Int},i < j→fstT (csz f i) ≠ fstT (csz f j):=fun {i j} hij he => by
  have h1:=ZAh hs ht hij (Z4z hs hw i) (Z4z hs hw j)
  have h0:f.Count ≠ 0:=by have:=hw.1;omega
  have e:csz f i = (Z0G f i).map (ZW (i / f.Count * f.Period)):=by rw [Z1o hw.1];rfl
  have hne:Z0G f i ≠ []:=hw.2.2 _ (Z0K hs h0 _).2
  have h2:=Z5T (hs.core _ (Z0K hs h0 i).2) hne
  rw [e,(Z3O _ hne).1] at h1;rw [e,(Z3O _ hne).2] at he;omega
 rcases Int.lt_trichotomy i j with h1 | h1 | h1
 ·exact absurd h (key h1)
 ·exact h1
 ·exact absurd h.symm (key h1)
theorem MadeOf.turn {f C:Form} {β:Int→Int} (h:MadeOf f C β) (hsf:Shape f) (htf:Turns f) (hwf:Z0t f) (hwC:Z0t C) {a b:Int} (hab:a * C.Period = b * f.Period) (i:Int):β (i + C.Count * a) = β i + f.Count * b:=by
 apply fst_inj hsf htf hwf
 rw [← h.head hsf hwf]
 have e1:csz C (i + C.Count * a) = (csz C i).map (ZW (a * C.Period)):=by
  rw [Z1o hwC.1];exact Z5j (by have:=hwC.1;omega) _ _
 have e2:csz f (β i + f.Count * b) = (csz f (β i)).map (ZW (b * f.Period)):=by
  rw [Z1o hwf.1];exact Z5j (by have:=hwf.1;omega) _ _
 have hnC:csz C i ≠ []:=by
  have:=h.up i
  rw [h.set];exact (gl_fst (Z4z hsf hwf _) (by omega)).1
 rw [e1,e2,(Z3O _ hnC).2,(Z3O _ (Z4z hsf hwf _)).2,h.head hsf hwf,hab]
theorem range_snoc {α:Type} (g:Nat→α) (k:Nat):(List.range k).map g ++ [g k] = (List.range (k + 1)).map g:=by rw [List.range_succ,Yw];rfl
theorem range_at {α:Type} (g:Nat→α) {k n:Nat} (h:k < n):at? ((List.range n).map g) (k:Int) = some (g k):=by
 rw [at?_nat (by simpa using h)]
 simp
theorem range_cut {α:Type} (g:Nat→α) {k n:Nat} (h:k≤n):cut? ((List.range n).map g) 0 (k:Int) = some ((List.range k).map g):=by
 unfold cut?
 rw [if_pos (by simp;omega)]
 rw [← List.map_take,List.take_range,Nat.min_eq_left (by simp;omega)]
 simp
end Go.Dn

namespace Go.Dn
open Go
theorem canon_whole {F g:Form} (hl:Lim F) (hr:RightF F) (hg:ZZ F = some g) (hn:∀ i,csz F i ≠ []) (he:∀ i,ZL F i = csz F i):Z0t g∧csz g = csz F∧Lim g∧RightF g∧ZZ g = some g:=by
 have hs:=hr.shape
 obtain ⟨c,hc,hcf⟩:=Z2i hl hs
 rw [hg] at hcf
 cases hcf
 obtain ⟨g2,fg,lg,rg,_,fixg,_⟩:=canon_facts hl hr
 rw [hg] at fg
 cases fg
 have hz:=Z5Z hs hc
 have hcnt:=rg.shape.count
 refine ⟨⟨?_,?_,fun l hl' => ?_⟩,hz,lg,rg,fixg⟩
 ·rcases Int.lt_or_le 0 (Z1u F c).Count with h | h
  ·exact h
  ·exfalso
   apply hn 0;rw [← hz];exact if_pos (by omega)
 ·rw [List.eq_nil_iff_forall_not_mem];intro x hx;rw [Z2x,ZAX] at hx;have:=Z18 hs.inc hx.1
  rw [he] at this;exact hx.2 this
 ·intro h;subst h;obtain ⟨j,hj,e⟩:=Yn hl'
  apply hn j;rw [← hz,Z1o (by omega)]
  unfold cs Z0G;rw [Int.emod_eq_of_lt (by omega) (by omega),Y0i,YL,Y2 hj,e]
  rfl
structure PairF (f:Form) (K:Nat) (g:Form):Prop where
 small:Z6M f
 right:RightF f
 per:f.Period≤300
 whole:Z0t f
 near:∀ l ∈ f.Core,∀ s ∈ l,-1073741824≤s.From∧s.To≤1073741824
 group:ZX f K = some (g,0)
theorem few14_eq {f:Form} (hl:Lim f):∃ b,Z1h f = some b∧(b = true ↔ (Z6M f∧RightF f)∧f.Period≤300):=by
 unfold Z1h
 obtain ⟨b,h1,h2⟩:=right13_eq hl
 rw [h1]
 refine ⟨_,rfl,?_⟩
 rw [Y8,decide_eq_true_iff,h2]
theorem PairF.ticks {f g:Form} {K:Nat} (h:PairF f K g):∀ i,-1000000≤i→i≤1000000→Z0c (csz f i):=fun i h1 h2 s hs' => by
 have hs:=h.right.shape
 have hw:=h.whole
 have h0:f.Count ≠ 0:=by have:=hw.1;omega
 have hper:=hs.per
 have h3:=h.per
 have e:csz f i = (Z0G f i).map (ZW (i / f.Count * f.Period)):=by rw [Z1o hw.1];rfl
 rw [e] at hs'
 obtain ⟨x,hx,rfl⟩:=List.mem_map.1 hs'
 have hm:=(Z0K hs h0 i).2
 have hn:=h.near _ hm x hx
 have hft:=(Z9V (hs.core _ hm)).2 x hx
 have q1:i / f.Count≤1000000:=Y0f hw.1 (by
  have:(1000000:Int) * 1≤1000000 * f.Count:=YW (by have:=hw.1;omega) (by decide)
  omega)
 have q2 : -1000000≤i / f.Count:=Y0g hw.1 (by
  have:(1000000:Int) * 1≤1000000 * f.Count:=YW (by have:=hw.1;omega) (by decide)
  omega)
 generalize i / f.Count = q at *
 have m1:q * f.Period≤1000000 * f.Period:=YZ q1 (by omega)
 have m2 : -1000000 * f.Period≤q * f.Period:=YZ q2 (by omega)
 show ZF (x.From + q * f.Period)∧ZF (x.To + q * f.Period)
 unfold ZF
 omega
theorem PairF.coarse {f g:Form} {K:Nat} (hl:Lim f) (h:PairF f K g) (k1:1≤K) (k2:K≤9):Z0t g∧Lim g∧RightF g∧Bnd g∧ZZ g = some g∧MadeOf f g (fun i => i * K):=by
 have hs:=h.right.shape
 have hw:=h.whole
 obtain ⟨g',e,h1,h2,_⟩:=group_eq2 (m:=K) hl hs h.small.b60 k1 (by omega) (by omega)
 rw [h.group] at h1
 obtain ⟨rfl,rfl⟩:=Prod.mk.inj (Option.some.inj h1)
 obtain ⟨F,hG,lF,rF,nF,hc⟩:=h2 rfl
 have hne:∀ i,csz F i ≠ []:=fun i => by
  rw [hG.csz];exact (gl_fst (Z4z hs hw _) k1).1
 have hset:∀ i,ZL F i = csz F i:=fun i => by
  rw [hG.set,hG.csz];exact gl_congr fun j _ => whole_setAt hw _
 obtain ⟨wg,cg,lg,rg,fg⟩:=canon_whole lF rF hc hne hset
 obtain ⟨c,hco,hcf⟩:=Z2i lF rF.shape
 rw [hc] at hcf
 have hb:Bnd g:=by
  cases hcf;exact canonF_bnd (hG.bnd.small (by omega)) hco
 refine ⟨wg,lg,rg,hb,fg,fun i => by simp only [Y0Z];omega,fun i => ?_,fun i h1 h2 => ?_⟩
 ·rw [cg,hG.csz];have:((i + 1) * (K:Int) - i * K).toNat = K:=by rw [Y0Z];omega
  rw [this]
 ·have m1:i * (K:Int)≤6001 * K:=YZ h2 (by omega)
  have m2:0≤i * (K:Int):=Y0H h1 (by omega)
  omega
end Go.Dn

namespace Go.Dn
open Go
theorem parts_not {f C:Form} (hlf:Lim f) (hlC:Lim C) (h:¬ (Z0t f∧Z0t C)):ZJ f C = some ([],0,51):=by
 obtain ⟨x1,w1,w2⟩:=Z9o hlf
 obtain ⟨x2,w3,w4⟩:=Z9o hlC
 unfold ZJ
 rw [w1,w3]
 cases x1 with
 | false => rfl
 | true =>
  cases x2 with
  | false => rfl
  | true => exact absurd ⟨w2.1 rfl,w4.1 rfl⟩ h
structure PartsOK (x:List Int × Int × Int):Prop where
 some:1≤x.1.length
 few:x.1.length≤6000
 tick:∀ y ∈ x.1,In64 y
theorem parts_tot {f C:Form} (hlf:Lim f) (hrf:RightF f) (hnf:¬ Z5x f) (hwf:Z0t f) (hlC:Lim C) (hrC:RightF C) (hwC:Z0t C) :
  ∃ x,ZJ f C = some x∧(x.2.2 = 0→PartsOK x):=by
 have hsf:=hrf.shape
 have hsC:=hrC.shape
 have cC:=hwC.1
 have hro:=Z4i
 obtain ⟨x1,w1,w2⟩:=Z9o hlf
 obtain ⟨x2,w3,w4⟩:=Z9o hlC
 have:x1 = true:=w2.2 hwf
 subst this
 have:x2 = true:=w4.2 hwC
 subst this
 unfold ZJ
 rw [w1,w3]
 simp only [Y0,Yd,cond_false]
 rcases turn14_eq hlf hsf hwf hlC hsC hwC with e | ⟨a,b,a1,b1,hab,e,c6,f6⟩
 ·rw [e];exact ⟨_,rfl,fun h => by cases h⟩
 rw [e]
 simp only [Y0,bne_self_eq_false,cond_false]
 have c1:1≤C.Count * a:=by
  have:=YW a1 (show 0≤C.Count by omega)
  omega
 obtain ⟨c,hc⟩ : ∃ c:Nat,C.Count * a = c:=⟨(C.Count * a).toNat,by omega⟩
 rw [hc] at c6 c1 ⊢
 rw [ZD (x:=(c:Int) + 1) (by omega)]
 obtain ⟨y,l0,hy⟩:=Z0D (step:=ZJ.s0 C ((c:Int),f.Count * b,0)) (fun s => ∃ k:Nat,s = (k:Int)∧k≤c + 1∧∀ j:Nat,j < k→Z0c (csz C j)) (fun s => c + 1 - s.toNat)
  (fun r => r = .ret ([],0,20)∨(r = .go ()∧∀ j:Nat,j < c + 1→Z0c (csz C j))) (by
  rintro s ⟨k,rfl,hk,hall⟩;unfold ZJ.s0;rw [ZD (x:=(c:Int) + 1) (by omega)]
  by_cases hlt:k < c + 1
  ·rw [ZT (show (k:Int) < c + 1 by omega),cond_true,ZAd hlC hsC (i:=(k:Int)) (by unfold In64;omega)]
   by_cases tk:Z0c (csz C k)
   ·left
    rw [if_pos tk];simp only [Y0,bne_self_eq_false,cond_false];rw [ZD (x:=(k:Int) + 1) (by omega)]
    refine ⟨_,rfl,⟨k + 1,by push_cast;rfl,by omega,fun j hj => ?_⟩,by omega⟩
    by_cases hjk:j = k
    ·subst hjk;exact tk
    ·exact hall j (by omega)
   ·right
    rw [if_neg tk];exact ⟨_,rfl,.inl rfl⟩
  ·right
   obtain rfl:k = c + 1:=by omega
   rw [Za (by omega),cond_false]
   exact ⟨_,rfl,.inr ⟨rfl,hall⟩⟩) 0 ⟨0,rfl,YS _,fun j hj => absurd hj (Nat.not_lt_zero _)⟩
 rw [l0]
 rcases hy with rfl | ⟨rfl,tick⟩
 ·exact ⟨_,rfl,fun h => by cases h⟩
 simp only [Y0,Jx.elim]
 have l1:=Z0D (step:=Z01.s0 (S:=((List (List Span)) × (List Int)) × Nat) ((c:Int) + 1) C f (Z1G ZJ.b1))
  (fun s => ∃ (k:Nat) (bs:List Int),k≤c + 1∧s = ((k:Int),(((List.range k).map (fun (j:Nat) => csz C j),bs),0))∧bs.length = k∧∀ y ∈ bs,ZF y)
  (fun s => c + 1 - s.1.toNat) (fun r => ∃ (k:Nat) (bs:List Int),k≤c + 1∧(r = .go (((List.range k).map (fun (j:Nat) => csz C j),bs),0)∨r = .ret (((List.range k).map (fun (j:Nat) => csz C j),bs),0))∧bs.length = k∧∀ y ∈ bs,ZF y) (by
  rintro s ⟨k,bs,hk,rfl,hlen,hbs⟩;unfold Z01.s0;simp only
  by_cases hlt:k < c + 1
  ·rw [ZT (show (k:Int) < c + 1 by omega),cond_true,ZAd hlC hsC (i:=(k:Int)) (by unfold In64;omega),if_pos (tick k hlt)]
   simp only [Y0];obtain ⟨s0,l0,hsl⟩:=List.exists_cons_of_ne_nil (Z4z hsC hwC k)
   have hat:at? (csz C (k:Int)) 0 = some s0:=by rw [hsl];rfl
   rw [hat];simp only [Y0];obtain ⟨x,e3,hx,_⟩:=find_At_eq hlf hsf s0.From
   rw [e3];simp only [Y0];cases hx2:x.2 with
   | false =>
    right
    exact ⟨_,rfl,k,bs,hk,.inr rfl,hlen,hbs⟩
   | true =>
    left
    simp only [Yd,cond_false,Z1G,if_true];unfold ZJ.b1;rw [app?_ok (by simp only [Yb,Y0h,Yu];omega),app?_ok (by simp only [Yu];omega)]
    simp only [Y0,Y9,beq_self_eq_true,Yd,cond_false];rw [range_snoc (fun (j:Nat) => csz C j),ZD (x:=(k:Int) + 1) (by omega)]
    refine ⟨_,rfl,⟨k + 1,bs ++ [x.1],by omega,by push_cast;rfl,by simp [hlen],fun y hy => ?_⟩,by simp only;omega⟩
    rcases List.mem_append.1 hy with hy | hy
    ·exact hbs y hy
    ·rw [YD] at hy;subst hy;exact (hx hx2).1
  ·right
   rw [Za (by omega),cond_false]
   exact ⟨_,rfl,k,bs,hk,.inl rfl,hlen,hbs⟩) (0,(([],[]),0)) ⟨0,[],YS _,rfl,rfl,by simp⟩
 obtain ⟨y,q1,k,bs,hk,q2,hlen,hbs⟩:=l1
 have q3:Z01 (S:=((List (List Span)) × (List Int)) × Nat) ((c:Int) + 1) C f (Z1G ZJ.b1) (([],[]),0) = some (((List.range k).map (fun (j:Nat) => csz C j),bs),0):=by
  unfold Z01;rw [q1]
  rcases q2 with rfl | rfl <;> rfl
 rw [q3]
 simp only [Y0]
 by_cases hkc:k≤c
 ·rw [ZT (show (bs.length:Int)≤c by omega)]
  exact ⟨_,rfl,fun h => by cases h⟩
 obtain rfl:k = c + 1:=by omega
 rw [Za (show ¬ (bs.length:Int)≤c by omega),cond_false]
 have hat:∀ j:Nat,j < c + 1→∃ y,at? bs (j:Int) = some y∧In64 y:=fun j hj => by
  rw [at?_nat (by omega)]
  exact ⟨_,rfl,Z1H (hbs _ (YY _))⟩
 obtain ⟨y0,a0,i0⟩:=hat 0 (by omega)
 obtain ⟨yc,ac,ic⟩:=hat c (by omega)
 have a0':at? bs 0 = some y0:=a0
 rw [a0',ac]
 simp only [Y0]
 rw [Z58 hlf hrf hnf hwf i0 ic]
 simp only [Y0]
 by_cases hall:AllT f y0 (yc - y0).toNat
 ·rw [if_pos hall];simp only [bne_self_eq_false,cond_false];have hs1:some? ((List.range (c + 1)).map (fun (j:Nat) => csz C j)) = some ():=by
   rw [List.range_succ_eq_map];rfl
  have hs2:some? bs = some ():=by
   cases bs with
   | nil => simp at hlen
   | cons a l => rfl
  have hcb:cut? bs 0 (c:Int) = some (bs.take c):=by
   unfold cut?;rw [if_pos (by omega)]
   simp
  rw [hs1,hs2,range_cut (fun (j:Nat) => csz C j) (show c≤c + 1 by omega),hcb]
  simp only [Y0];obtain ⟨z,l2,hz⟩:=Z0D (step:=ZJ.s2 f (((List.range (c + 1)).map (fun (j:Nat) => csz C j),bs),0) ((List.range c).map (fun (j:Nat) => csz C j))) (fun s => ∃ k:Nat,s = (k:Int)∧k≤c) (fun s => c - s.toNat)
   (fun r => r = .ret ([],0,51)∨r = .go ()) (by
   rintro s ⟨k,rfl,hk⟩;unfold ZJ.s2;have hlenS:((((List.range c).map (fun (j:Nat) => csz C j)).length:Nat):Int) = c:=by simp
   rw [hlenS]
   by_cases hlt:k < c
   ·rw [ZT (show (k:Int) < c by omega),cond_true,range_at (fun (j:Nat) => csz C j) hlt]
    simp only [Y0];have hw:w64 ((k:Int) + 1) = ((k + 1:Nat):Int):=by rw [ZD (by omega)];push_cast;rfl
    obtain ⟨y1,e1,j1⟩:=hat k (by omega)
    obtain ⟨y2,e2,j2⟩:=hat (k + 1) (by omega)
    rw [hw,e1,e2];simp only [Y0];obtain ⟨l,e,hg,hlenl⟩ : ∃ l e,Zl f y1 y2 = some (l,e)∧Len l:=by
     rw [Z58 hlf hrf hnf hwf j1 j2]
     by_cases ha:AllT f y1 (y2 - y1).toNat
     ·rw [if_pos ha];obtain ⟨g1,g2⟩:=gl_norm hsf hrf.turns _ ha
      have:=tick_len g1 g2
      exact ⟨_,_,rfl,by unfold Len;have:=Z0e;omega⟩
     ·rw [if_neg ha];exact ⟨_,_,rfl,by unfold Len;simp⟩
    rw [hg];simp only [Y0];obtain ⟨r,r1,_⟩:=Z8q (a:=l) (b:=csz C k) hlenl
    rw [r1];simp only [Y0];cases r with
    | true =>
     left
     simp only [Yd,cond_false];rw [← hw,ZD (x:=(k:Int) + 1) (by omega)]
     exact ⟨_,rfl,⟨k + 1,by push_cast;rfl,by omega⟩,by omega⟩
    | false =>
     right
     exact ⟨_,rfl,.inl rfl⟩
   ·right
    rw [Za (by omega),cond_false]
    exact ⟨_,rfl,.inr rfl⟩) 0 ⟨0,rfl,YS _⟩
  rw [l2]
  rcases hz with rfl | rfl
  ·exact ⟨_,rfl,fun h => by cases h⟩
  ·refine ⟨_,rfl,fun _ => ⟨?_,?_,fun y hy => Z1H (hbs y (Yl hy))⟩⟩
   ·show 1≤(bs.take c).length
    rw [YQ];omega
   ·show (bs.take c).length≤6000
    rw [YQ];omega
 ·rw [if_neg hall];exact ⟨_,rfl,fun h => by cases h⟩
theorem altered_tot {b:List Int} {i l m F k:Int} (hb:1≤b.length) (hb2:b.length≤6000) (hi:In64 i) (hm:1≤m) (hm2:In64 m):∃ x,Zi i (b.length:Int) l m b F k = some x∧In64 x:=by
 unfold Zi
 rw [Z0v hi (by unfold In64;omega),Z2U (by omega)]
 simp only [Y0]
 rw [Z0v (Z92 _) hm2,Z2U (by omega)]
 simp only [Y0]
 have h1:=Yk i (show (b.length:Int) ≠ 0 by omega)
 have h2:=Yq i (show (0:Int) < b.length by omega)
 rw [at?_lt h1 h2]
 exact ⟨_,rfl,Z92 _⟩
theorem done_tot {F:Form} (hl:Lim F):∃ x,Z1F F = some x:=by
 unfold Z1F
 rcases Z6Q hl with ⟨_,h⟩ | ⟨_,h3,h4⟩ | ⟨_,_,h⟩
 ·rw [h];exact ⟨_,rfl⟩
 ·rw [h4];obtain ⟨c,hc1,hc⟩:=Z2i hl h3.shape
  simp only [Y0,beq_self_eq_true,cond_true];rw [hc];exact ⟨_,rfl⟩
 ·rw [h];exact ⟨_,rfl⟩
theorem form_tot {f C:Form} (hlf:Lim f) (hrf:RightF f) (hnf:¬ Z5x f) (hwf:Z0t f) (hlC:Lim C) (hrC:RightF C) (hwC:Z0t C) (k l m:Int):∃ x,ZR f C k l m = some x:=by
 have hsf:=hrf.shape
 have hcnt:=hsf.count
 have hfc:f.Core.length≤6000:=by unfold Z5x at hnf;omega
 have hro:=Z4i
 unfold ZR
 by_cases hargs:((((((decide (m < 1)) || (decide (m > 6000))) || (decide (l < 0))) || (decide (l ≥ m))) || (decide (k < (-6000)))) || (decide (k > 6000))) = true
 ·rw [hargs];exact ⟨_,rfl⟩
 ·have hargs':=hargs
  simp only [Yj,decide_eq_true_eq] at hargs';rw [Yt] at hargs;rw [hargs,cond_false];obtain ⟨x1,e1,p1⟩:=parts_tot hlf hrf hnf hwf hlC hrC hwC
  rw [e1];simp only [Y0]
  by_cases h0:x1.2.2 = 0
  case neg =>
   have:(x1.2.2 != 0) = true:=by simpa using h0
   rw [this];exact ⟨_,rfl⟩
  have hp:=p1 h0
  have hp1:=hp.some
  have hp2:=hp.few
  rw [bne_f h0,cond_false];obtain ⟨n,hn1,hn2⟩ : ∃ n:Int,Z3A (x1.1.length:Int) m = some (n,0)∧1≤n∧n≤36000000:=by
   obtain ⟨mm,rfl⟩ : ∃ mm:Nat,m = mm:=⟨m.toNat,by omega⟩
   rw [Z66 (by unfold In64;omega) (by unfold In64;omega)]
   unfold lcmS;rw [if_neg (by omega)]
   simp only [Int.natAbs_natCast];have g0:0 < Nat.gcd x1.1.length mm:=Y0I _ (by omega)
   have d1:1≤x1.1.length / Nat.gcd x1.1.length mm:=Nat.div_pos (Nat.le_of_dvd (by omega) (Nat.gcd_dvd_left _ _)) g0
   have d2:x1.1.length / Nat.gcd x1.1.length mm≤x1.1.length:=Nat.div_le_self _ _
   generalize x1.1.length / Nat.gcd x1.1.length mm = q at *
   have m1:q * mm≤6000 * 6000:=Y0X (by omega) (by omega)
   have m2:1 * 1≤q * mm:=Y0X d1 (by omega)
   have e:(q:Int) * (mm:Int) = ((q * mm:Nat):Int):=by push_cast;rfl
   rw [e,ZAD (by unfold In64;omega)]
   exact ⟨_,rfl,by omega,by omega⟩
  have alt:∀ i,In64 i→∃ x,Zi i (x1.1.length:Int) l m x1.1 x1.2.1 k = some x∧In64 x:=fun i hi => altered_tot hp1 hp2 hi (by omega) (by unfold In64;omega)
  rw [hn1];simp only [Y0];obtain ⟨x3,e3,_⟩:=alt n (by unfold In64;omega)
  obtain ⟨x4,e4,_⟩:=alt 0 (by unfold In64;omega)
  rw [e3,e4];simp only [Y0];have hy:=Z92 (x3 - x4)
  generalize w64 (x3 - x4) = y at *
  by_cases hbig:n > 6000
  ·rw [ZT hbig];exact ⟨_,rfl⟩
  rw [Za hbig,cond_false];obtain ⟨z,l0,hz⟩:=Z0D (step:=ZR.s0 k l m x1 (n,y)) (fun s => 0≤s∧s≤n) (fun s => (n - s).toNat) (fun r => r = .ret (Form.mk 0 0 [] [],51)∨r = .go ()) (by
   rintro s ⟨s0,s1⟩;unfold ZR.s0;simp only
   by_cases hlt:s < n
   ·rw [ZT hlt,cond_true,ZD (x:=s + 1) (by omega)]
    obtain ⟨x5,e5,_⟩:=alt (s + 1) (by unfold In64;omega)
    obtain ⟨x6,e6,_⟩:=alt s (by unfold In64;omega)
    rw [e5,e6];simp only [Y0]
    by_cases hle:x5≤x6
    ·right
     rw [ZT hle];exact ⟨_,rfl,.inl rfl⟩
    ·left
     rw [Za hle];exact ⟨_,rfl,⟨by omega,by omega⟩,by omega⟩
   ·right
    rw [Za hlt,cond_false];exact ⟨_,rfl,.inr rfl⟩) 0 ⟨by omega,by omega⟩
  rw [l0]
  rcases hz with rfl | rfl
  ·exact ⟨_,rfl⟩
  simp only [Y0,Jx.elim];have hcf:=hwf.1
  rw [safe_Gcd_eq' (by unfold In64;omega) hy]
  simp only [Y0];have g0:0 < Nat.gcd f.Count.natAbs y.natAbs:=Y0I _ (by omega)
  have g1:Nat.gcd f.Count.natAbs y.natAbs≤f.Count.natAbs:=Nat.le_of_dvd (by omega) (Nat.gcd_dvd_left _ _)
  generalize Nat.gcd f.Count.natAbs y.natAbs = g at *
  rw [ZAD (by unfold In64;omega)]
  simp only;rw [nz?_ok (by omega),nz?_ok (by omega)]
  simp only [Y0];have t1:f.Count.tdiv (g:Int) = f.Count / (g:Int):=Y0p (by omega)
  have t2:0≤f.Count / (g:Int):=Int.ediv_nonneg (by omega) (by omega)
  have t3:f.Count / (g:Int)≤f.Count:=Y0W _ (by omega)
  rw [t1];generalize f.Count / (g:Int) = tm at *
  have m1:n * tm≤6000 * 6000:=by
   have h1:n * tm≤6000 * tm:=YZ (by omega) t2
   omega
  have m2:0≤n * tm:=Y0H (by omega) t2
  rw [ZD (x:=tm) (by omega),ZD (x:=n * tm) (by omega)]
  by_cases hc6:(decide (n * tm > 6000) || decide (w64 (y * tm) > 60000)) = true
  ·rw [hc6];exact ⟨_,rfl⟩
  have hc6':=hc6
  simp only [Yj,decide_eq_true_eq] at hc6';rw [Yt] at hc6;rw [hc6,cond_false];have hper:In64 (Z7 (w64 ((w64 (y * tm)).tdiv f.Count)) f.Period).1:=by
   rw [Z2w (Z92 _) hlf.period];exact fitS_in _
  by_cases hov:(((Z7 (w64 ((w64 (y * tm)).tdiv f.Count)) f.Period).2 != 0) || decide ((Z7 (w64 ((w64 (y * tm)).tdiv f.Count)) f.Period).1 > 1099511627776)) = true
  ·rw [hov];exact ⟨_,rfl⟩
  rw [Yt] at hov;rw [hov,cond_false];obtain ⟨z,l1,hz⟩:=Z0D (step:=ZR.s1 f k l m x1 (n,y) ((g:Int),0)) (fun s => 0≤s.1∧s.1≤n * tm∧(s.2.length:Int) = s.1∧∀ L ∈ s.2,Len L∧Sp64 L) (fun s => (n * tm - s.1).toNat)
   (fun r => (∃ e,r = .ret (Form.mk 0 0 [] [],e))∨∃ Ls,r = .go (Ls,(Z7 (w64 ((w64 (y * tm)).tdiv f.Count)) f.Period).1,n * tm)∧(Ls.length:Int)≤6000∧∀ L ∈ Ls,Len L∧Sp64 L) (by
   rintro ⟨s,Ls⟩ ⟨s0,s1,s2,s3⟩;simp only at s0 s1 s2 s3;unfold ZR.s1;simp only;rw [t1,ZD (x:=tm) (by omega),ZD (x:=n * tm) (by omega)]
   by_cases hlt:s < n * tm
   ·rw [ZT hlt,cond_true,ZD (x:=s + 1) (by omega)]
    obtain ⟨x8,e8,i8⟩:=alt s (by unfold In64;omega)
    obtain ⟨x9,e9,i9⟩:=alt (s + 1) (by unfold In64;omega)
    rw [e8,e9];simp only [Y0];rw [Z58 hlf hrf hnf hwf i8 i9];simp only [Y0]
    by_cases ha:AllT f x8 (x9 - x8).toNat
    ·left
     rw [if_pos ha];simp only [bne_self_eq_false,cond_false];rw [app?_ok (by simp only [Yu];omega)]
     simp only [Y0];obtain ⟨g1,g2⟩:=gl_norm hsf hrf.turns _ ha
     have:=tick_len g1 g2
     refine ⟨_,rfl,⟨by simp only;omega,by simp only;omega,by simp only [Yg,Yu];omega,fun L hL => ?_⟩,by simp only;omega⟩
     rcases List.mem_append.1 hL with hL | hL
     ·exact s3 L hL
     ·rw [YD] at hL;subst hL;exact ⟨by unfold Len;have:=Z0e;omega,fun s hs' => ⟨Z1H (g2 s hs').1,Z1H (g2 s hs').2⟩⟩
    ·right
     rw [if_neg ha];exact ⟨_,rfl,.inl ⟨20,rfl⟩⟩
   ·right
    rw [Za hlt,cond_false];exact ⟨_,rfl,.inr ⟨Ls,rfl,by omega,s3⟩⟩) (0,[]) ⟨by simp,by simpa using m2,by simp,by simp⟩
  rw [l1]
  rcases hz with ⟨e,rfl⟩ | ⟨Ls,rfl,h1,h2⟩
  ·exact ⟨_,rfl⟩
  ·simp only [Y0,Jx.elim];have lim:Lim (Form.mk (Z7 (w64 ((w64 (y * tm)).tdiv f.Count)) f.Period).1 (n * tm) Ls []):=by
    have r:=Z0e
    refine ⟨?_,h2,by simp,fun g hg => (by cases hg),?_,hper⟩
    ·show Ls.length * 24≤reachBytes
     omega
    ·show In64 (n * tm)
     unfold In64;omega
   obtain ⟨x,hx⟩:=done_tot lim
   rw [hx];exact ⟨_,rfl⟩
theorem shape_both {f g:Form} (hlf:Lim f) (hlg:Lim g):∃ y,loopO (ZH.s0 f g) (true,0) = some y∧(y = true ↔ Z0t f∧Z0t g):=by
 open Classical in
 have inner:∀ {x:Form} (hl:Lim x) (b:Bool),loopO (ZH.s1 x) (((b && (decide (x.Count > 0))) && ((x.Odd.length:Int) == 0)),0) = some (b && decide (Z0t x)):=fun {x} hl b => by
  have hcl:(x.Core.length:Int) < 4611686018427387904:=Z2n (b:=23) hl.core
  refine Z2E (I:=fun s r => r = (b && decide (Z0t x))∧∃ k:Nat,k≤x.Core.length∧s = ((((b && (decide (x.Count > 0))) && ((x.Odd.length:Int) == 0)) && decide (∀ l ∈ x.Core.take k,l ≠ []),(k:Int)))) (fun s => x.Core.length - s.2.toNat) ?_ ⟨rfl,0,YS _,by simp⟩
  rintro s r ⟨rfl,k,hk,rfl⟩;unfold ZH.s1;simp only
  by_cases hlt:k < x.Core.length
  ·left
   rw [ZT (show (k:Int) < x.Core.length by omega),cond_true,at?_nat hlt]
   simp only [Y0];have htk:x.Core.take (k + 1) = x.Core.take k ++ [x.Core[k]]:=(Y0R hlt).symm
   refine ⟨_,rfl,⟨(by first | rfl | trivial),k + 1,hlt,?_⟩,by simp only;rw [ZD (by omega)];omega⟩
   rw [ZD (by omega),htk]
   congr 1
   rw [Bool.and_assoc]
   congr 1
   rw [← Bool.decide_and]
   congr 1
   apply propext;have hpos:(x.Core[k].length:Int) > 0 ↔ x.Core[k] ≠ []:=by
    rw [← List.length_pos_iff];omega
   rw [hpos]
   constructor
   ·rintro ⟨h1,h2⟩ l hl'
    rcases List.mem_append.1 hl' with h | h
    ·exact h1 l h
    ·rw [YD] at h;subst h;exact h2
   ·intro h;exact ⟨fun l hl' => h l (YV _ hl'),h _ (Yh _ (List.mem_singleton.2 rfl))⟩
  ·right
   obtain rfl:k = x.Core.length:=by omega
   rw [Za (by omega),cond_false,Y0F]
   congr 2
   rw [Bool.and_assoc,Bool.and_assoc]
   congr 1
   rw [ibeq,← Bool.decide_and,← Bool.decide_and]
   congr 1
   apply propext;unfold Z0t
   constructor
   ·rintro ⟨h1,h2,h3⟩;exact ⟨h1,Yz (by omega),h3⟩
   ·rintro ⟨h1,h2,h3⟩;exact ⟨h1,by rw [h2];rfl,h3⟩
 have s1:ZH.s0 f g (true,0) = some (.inl (true && decide (Z0t f),1)):=by
  unfold ZH.s0;have e:at? [f,g] 0 = some f:=rfl
  simp only [Ye,Yf];rw [ZT (by decide),cond_true,e]
  simp only [Y0];rw [inner hlf]
  rfl
 have s2:∀ b,ZH.s0 f g (b,1) = some (.inl (b && decide (Z0t g),2)):=fun b => by
  unfold ZH.s0;have e:at? [f,g] 1 = some g:=rfl
  simp only [Ye,Yf];rw [ZT (by decide),cond_true,e]
  simp only [Y0];rw [inner hlg]
  rfl
 have s3:∀ b,ZH.s0 f g (b,2) = some (.inr b):=fun b => by
  unfold ZH.s0;simp only [Ye,Yf];rw [Za (by decide),cond_false]
 rw [Z4v,s1]
 simp only
 rw [Z4v,s2]
 simp only
 rw [Z4v,s3]
 refine ⟨_,rfl,?_⟩
 simp [Y8]
theorem ZBX (f g:Form) (m more:Int) (hf:f.ok) (hg:g.ok) (hm:okI .u8 m) (hmo:okI .u8 more):ZH f g m more = some true:=by
 have hlf:=Form.lim hf
 have hlg:=Form.lim hg
 have hm':0≤m∧m≤255:=hm
 have hmo':0≤more∧more≤255:=hmo
 unfold ZH
 obtain ⟨b1,e1,i1⟩:=few14_eq hlf
 obtain ⟨b2,e2,i2⟩:=few14_eq hlg
 rw [e1,e2]
 simp only [Y0]
 cases b1 with
 | false => rfl
 | true =>
 cases b2 with
 | false => rfl
 | true =>
 obtain ⟨⟨sf,rf⟩,_⟩:=i1.1 rfl
 obtain ⟨⟨sg,rg⟩,_⟩:=i2.1 rfl
 simp only [Yd,cond_false]
 obtain ⟨y,e3,hy⟩:=shape_both hlf hlg
 rw [e3]
 simp only [Y0]
 obtain ⟨x5,x6,e5,e6,hbad⟩ : ∃ x5 x6,ZJ f g = some x5∧ZR f g 1 0 2 = some x6∧(!y && ((x5.2.2 != 51) || (x6.2 != 51))) = false:=by
  by_cases hw:Z0t f∧Z0t g
  ·obtain ⟨x5,p5,_⟩:=parts_tot hlf rf sf.bnd.short hw.1 hlg rg hw.2
   obtain ⟨x6,p6⟩:=form_tot hlf rf sf.bnd.short hw.1 hlg rg hw.2 1 0 2
   refine ⟨x5,x6,p5,p6,?_⟩;rw [hy.2 hw];rfl
  ·have p5:=parts_not hlf hlg hw
   refine ⟨_,(Form.mk 0 0 [] [],51),p5,?_,?_⟩
   ·unfold ZR;rw [p5];rfl
   ·simp
 rw [e5,e6]
 simp only [Y0]
 rw [hbad,cond_false]
 obtain ⟨K,hK,k1,k2⟩ : ∃ K:Int,w64 (1 + w64 (m.tmod 20)) = K∧1≤K∧K≤20:=by
  refine ⟨1 + m % 20,?_,by omega,by omega⟩
  rw [Int.tmod_eq_emod_of_nonneg hm'.1,ZD (x:=m % 20) (by omega),ZD (by omega)]
 rw [hK]
 obtain ⟨G,x9,q1,q2,q3,q4⟩:=shape_days k1 k2
 rw [q1]
 simp only [Y0]
 rw [ZD (x:=0 - K) (by omega),ZD (x:=more) (by omega),ZD (x:=0 - K - more) (by omega),ZD (x:=1 - K) (by omega),q3]
 have q8:ZR Z3 G (0 - K - more) 1 3 = some (Form.mk 0 0 [] [],51):=by
  unfold ZR;have hargs:((((((decide ((3:Int) < 1)) || (decide ((3:Int) > 6000))) || (decide ((1:Int) < 0))) || (decide ((1:Int) ≥ 3))) || (decide (0 - K - more < (-6000)))) || (decide (0 - K - more > 6000))) = false:=by
   rw [Za (show ¬ (0 - K - more < -6000) by omega),Za (show ¬ (0 - K - more > 6000) by omega)]
   rfl
  rw [hargs,cond_false,q2];simp only [Y0,bne_self_eq_false,cond_false];have hl:Z3A (([(0:Int)].length:Nat):Int) 3 = some (3,0):=by
   rw [Z66 (by unfold In64;simp) (by unfold In64;simp)]
   rfl
  have alt:∀ i:Int,0≤i→i≤3→Zi i (([(0:Int)].length:Nat):Int) 1 3 [0] K (0 - K - more) = some (i * K + (0 - K - more) * ((i - 2) / 3 + 1)):=fun i h1 h2 => by
   unfold Zi;have el:(([(0:Int)].length:Nat):Int) = 1:=rfl
   rw [el,Z0v (by unfold In64;omega) (by unfold In64;omega),Z2U (by omega)]
   simp only [Y0];rw [ZD (x:=i - 1) (by omega),ZD (x:=i - 1 - 1) (by omega),Z0v (by unfold In64;omega) (by unfold In64;omega),Z2U (by omega)]
   simp only [Y0];have e1:i % 1 = 0:=by omega
   have e2:i / 1 = i:=by omega
   have e3:i - 1 - 1 = i - 2:=by omega
   have e4:at? [(0:Int)] 0 = some 0:=rfl
   rw [e1,e2,e3,e4];simp only [Y0];have d1:0≤(i - 2) / 3 + 1∧(i - 2) / 3 + 1≤1:=by omega
   generalize (i - 2) / 3 + 1 = q at *
   have m1:i * K≤3 * K:=YZ h2 (by omega)
   have m2:0≤i * K:=Y0H h1 (by omega)
   have hq:q = 0∨q = 1:=by omega
   have m3 : -275≤(0 - K - more) * q∧(0 - K - more) * q≤0:=by
    rcases hq with rfl | rfl <;> omega
   rw [ZD (x:=i * K) (by omega),ZD (x:=q) (by omega),ZD (x:=(0 - K - more) * q) (by omega),ZD (x:=0 + i * K) (by omega),Int.zero_add,ZD (by omega)]
  rw [hl];simp only [Y0];rw [alt 3 (by omega) (by omega),alt 0 (by omega) (by omega)]
  simp only [Y0];rw [Za (show ¬ (3:Int) > 6000 by omega),cond_false]
  have s0:∀ y:Int,ZR.s0 (0 - K - more) 1 3 ([0],K,0) (3,y) 0 = some (.inl 1):=fun y => by
   unfold ZR.s0;simp only;rw [ZT (by decide),cond_true]
   have e:w64 ((0:Int) + 1) = 1:=by rw [ZD (by omega)];rfl
   rw [e,alt 1 (by omega) (by omega),alt 0 (by omega) (by omega)]
   simp only [Y0];rw [Za (show ¬ (1 * K + (0 - K - more) * ((1 - 2) / 3 + 1)≤0 * K + (0 - K - more) * ((0 - 2) / 3 + 1)) by
    have e1:((1:Int) - 2) / 3 + 1 = 0:=by decide
    have e2:((0:Int) - 2) / 3 + 1 = 0:=by decide
    rw [e1,e2];omega)]
   rfl
  have s1:∀ y:Int,ZR.s0 (0 - K - more) 1 3 ([0],K,0) (3,y) 1 = some (.inr (.ret (Form.mk 0 0 [] [],51))):=fun y => by
   unfold ZR.s0;simp only;rw [ZT (by decide),cond_true]
   have e:w64 ((1:Int) + 1) = 2:=by rw [ZD (by omega)];rfl
   rw [e,alt 2 (by omega) (by omega),alt 1 (by omega) (by omega)]
   simp only [Y0];rw [ZT (show 2 * K + (0 - K - more) * ((2 - 2) / 3 + 1)≤1 * K + (0 - K - more) * ((1 - 2) / 3 + 1) by
    have e1:((2:Int) - 2) / 3 + 1 = 1:=by decide
    have e2:((1:Int) - 2) / 3 + 1 = 0:=by decide
    rw [e1,e2];omega)]
   rfl
  rw [Z4v,s0];simp only;rw [Z4v,s1]
  rfl
 rw [q8]
 simp only [Y0]
 rw [q4]
 rfl
end Go.Dn
