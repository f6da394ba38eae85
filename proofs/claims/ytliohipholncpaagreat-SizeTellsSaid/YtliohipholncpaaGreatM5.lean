/- Part 5 of what the row stands on. -/
import Derived.Test.YtliohipholncpaaGreatM4
set_option linter.unusedVariables false
set_option linter.unusedSimpArgs false
namespace Go.Dn
open Go
theorem ZCN (x y:Int):Z20 x y = if x < y then -1 else if y < x then 1 else 0:=by
 unfold Z20 Z2l
 simp only [bne_self_eq_false,cond_false,pickB,decide_eq_true_eq,gt_iff_lt,Y6,if_false]
def Inc (l:List Granule):Prop:=∀ (j k:Nat) (a b:Granule),j < k→l[j]? = some a→l[k]? = some b→a.Index < b.Index
theorem Z90 {l:List Granule} {t:Int} (hl:l.length * 32≤reachBytes) (hs:Inc l):∃ p:Nat,p≤l.length∧(∀ (k:Nat) (g:Granule),l[k]? = some g→(k < p ↔ g.Index < t)) ∧
  Z2 l t (fun z0 z1 => some (Z3e z0 z1)) = some ((p:Int),decide (∃ g,l[p]? = some g∧g.Index = t)):=by
 have hlen:(l.length:Int) < 4398046511104 * 4:=by have:=Z1D;omega
 have hcmp:∀ g i,Z3e g i = if g.Index < i then -1 else if i < g.Index then 1 else 0:=fun g i => ZCN _ _
 obtain ⟨r,h1,p,rfl,hp,hlow,hhigh⟩:=Zv (step:=Z2.s0 l t (fun z0 z1 => some (Z3e z0 z1)))
  (I:=fun s => ∃ i j:Nat,s = ((i:Int),(j:Int))∧i≤j∧j≤l.length∧(∀ k g,l[k]? = some g→k < i→g.Index < t)∧(∀ k g,l[k]? = some g→j≤k→t≤g.Index))
  (fun s => (s.2 - s.1).toNat)
  (fun r => ∃ p:Nat,r = (p:Int)∧p≤l.length∧(∀ k g,l[k]? = some g→k < p→g.Index < t)∧(∀ k g,l[k]? = some g→p≤k→t≤g.Index)) (by
  rintro s ⟨i,j,rfl,hij,hj,hlow,hhigh⟩;unfold Z2.s0
  by_cases hlt:i < j
  ·have hm:w64 ((IntKind.u64.wrap (w64 ((i:Int) + j))).fdiv (2 ^ 1)) = ((i + j) / 2:Nat):=by
    rw [Z9 (x:=(i:Int) + j) (by omega),Z6Z,Y0O _ (by decide),Z9 (by omega)]
    omega
   have hml:(i + j) / 2 < l.length:=by omega
   simp only [hm];rw [ZK (show (i:Int) < j by omega),cond_true,at?_nat hml]
   simp only [Y0,hcmp];refine .inl ?_;have hget:=Y2 hml
   by_cases hc:l[(i + j) / 2].Index < t
   ·rw [if_pos hc];refine ⟨((((i + j) / 2 + 1:Nat):Int),(j:Int)),?_,⟨(i + j) / 2 + 1,j,rfl,by omega,hj,fun k g hk hki => ?_,hhigh⟩,by simp;omega⟩
    ·rw [Z9 (by omega)];simp
    ·rcases YG k ((i + j) / 2) with h | h
     ·have:=hs k _ g _ h hk hget;omega
     ·have:k = (i + j) / 2:=by omega
      subst this;rw [hget] at hk;cases hk;exact hc
   ·rw [if_neg hc];refine ⟨((i:Int),(((i + j) / 2:Nat):Int)),?_,⟨i,(i + j) / 2,rfl,by omega,by omega,hlow,fun k g hk hki => ?_⟩,by simp;omega⟩
    ·split <;> simp
    ·rcases YG ((i + j) / 2) k with h | h
     ·have:=hs _ k _ g h hget hk;omega
     ·have:k = (i + j) / 2:=by omega
      subst this;rw [hget] at hk;cases hk;omega
  ·refine .inr ⟨(i:Int),by rw [ZJ (show ¬ (i:Int) < j by omega)];rfl,i,rfl,by omega,hlow,fun k g hk hki => hhigh k g hk (by omega)⟩) (0,(l.length:Int)) ⟨0,l.length,rfl,YN _,YC _,fun k g _ h => by omega,fun k g hk h => by
    rw [Yi h] at hk;cases hk⟩
 refine ⟨p,hp,fun k g hk => ⟨fun h => hlow k g hk h,fun h => ?_⟩,?_⟩
 ·rcases YG k p with h2 | h2
  ·exact h2
  ·have:=hhigh k g hk h2;omega
 ·unfold Z2;rw [h1];simp only [Y0]
  by_cases hlt:p < l.length
  ·rw [ZK (show (p:Int) < l.length by omega),cond_true,at?_nat hlt]
   simp only [Y0,hcmp,Y5,Y3,true_and];have:=hhigh p _ (Y2 hlt) (YC _)
   rw [Y2 hlt]
   by_cases he:l[p].Index = t
   ·rw [if_neg (by omega),if_neg (by omega)];simp [he]
   ·rw [if_neg (by omega),if_pos (by omega)];simp [he]
  ·rw [ZJ (show ¬ (p:Int) < l.length by omega),cond_false]
   simp only [Y0,Y5,Y3,true_and];rw [Yi (by omega)]
   simp
structure Shape (f:Form):Prop where
 count:f.Count = f.Core.length
 zero:f.Count = 0 ↔ f.Period = 0
 per:0≤f.Period∧f.Period≤1099511627776
 core:∀ l ∈ f.Core,RightL l
 odd:∀ g ∈ f.Odd,RightL g.Ticks∧ZF g.Index
 inc:Inc f.Odd
structure Lim (f:Form):Prop where
 core:f.Core.length * 24≤reachBytes
 sets:∀ l ∈ f.Core,Len l∧Sp64 l
 odd:f.Odd.length * 32≤reachBytes
 ticks:∀ g ∈ f.Odd,In64 g.Index∧Len g.Ticks∧Sp64 g.Ticks
 count:In64 f.Count
 period:In64 f.Period
theorem Form.lim {f:Form} (h:f.ok):Lim f:=by
 obtain ⟨h1,h2,h3,h4⟩:=h
 exact ⟨h3.1,fun l hl => okSpans (h3.2 l hl),h4.1,fun g hg => ⟨(h4.2 g hg).1,okSpans (h4.2 g hg).2⟩,h2,h1⟩
theorem Z5x {f:Form} (hl:Lim f) (hs:Inc f.Odd) (i:Int):∃ p:Nat,p≤f.Odd.length∧(∀ (k:Nat) (g:Granule),f.Odd[k]? = some g→(k < p ↔ g.Index < i))∧Z4p f i = some ((p:Int),decide (∃ g,f.Odd[p]? = some g∧g.Index = i)):=by
 obtain ⟨p,h1,h2,h3⟩:=Z90 (t:=i) hl.odd hs
 exact ⟨p,h1,h2,by unfold Z4p;rw [h3];rfl⟩
def ZT (f:Form) (i:Int):Prop:=∃ g ∈ f.Odd,g.Index = i
def Z0e (f:Form) (i:Int):List Span:=f.Core.getD (i % f.Count).toNat []
def Z4l (f:Form) (i:Int):Int:=i / f.Count * f.Period
open Classical in
noncomputable def Z1 (f:Form) (i:Int):List Span:=if h:ZT f i then h.choose.Ticks else if f.Count = 0 then [] else (Z0e f i).map (ZR (Z4l f i))
theorem Inc.uniq {l:List Granule} (h:Inc l) {a b:Granule} (ha:a ∈ l) (hb:b ∈ l) (he:a.Index = b.Index):a = b:=by
 obtain ⟨j,hj⟩:=YB ha
 obtain ⟨k,hk⟩:=YB hb
 rcases Y0g j k with hjk | rfl | hjk
 ·have:=h j k a b hjk hj hk;omega
 ·rw [hj] at hk;cases hk;rfl
 ·have:=h k j b a hjk hk hj;omega
theorem Z0J {f:Form} (hs:Inc f.Odd) {g:Granule} (hg:g ∈ f.Odd):Z1 f g.Index = g.Ticks:=by
 have h:ZT f g.Index:=⟨g,hg,rfl⟩
 unfold Z1
 rw [dif_pos h]
 rw [hs.uniq h.choose_spec.1 hg h.choose_spec.2]
theorem Z0g {f:Form} {i:Int} (h:¬ ZT f i) (h0:f.Count = 0):Z1 f i = []:=by unfold Z1;rw [dif_neg h,if_pos h0]
theorem Z2C {f:Form} {i:Int} (h:¬ ZT f i) (h0:f.Count ≠ 0):Z1 f i = (Z0e f i).map (ZR (Z4l f i)):=by unfold Z1;rw [dif_neg h,if_neg h0]
theorem Z9h {f:Form} (hs:Shape f) (h0:f.Count ≠ 0):0 < f.Count:=by have:=hs.count;omega
theorem Z0t {f:Form} (hs:Shape f) (h0:f.Count ≠ 0) (i:Int):at? f.Core (i % f.Count) = some (Z0e f i)∧Z0e f i ∈ f.Core:=by
 have hp:=Z9h hs h0
 have h1:=Ye i h0
 have h2:=Yl i hp
 have h3:(i % f.Count).toNat < f.Core.length:=by have:=hs.count;omega
 unfold Z0e
 rw [at?_lt h1 (by have:=hs.count;omega),YI,Y2 h3]
 exact ⟨rfl,YF h3⟩
theorem Z8i {f:Form} (hl:Lim f) (hs:Shape f) {g:Granule} (hg:g ∈ f.Odd):Z2f f g.Index = some (g.Ticks,0,0):=by
 obtain ⟨p,h1,h2,h3⟩:=Z5x hl hs.inc g.Index
 obtain ⟨k,hk⟩:=YB hg
 have hkl:=(List.getElem?_eq_some_iff.1 hk).1
 have hpk:p≤k:=by
  rcases YG k p with h | h
  ·have:=(h2 k g hk).1 h;omega
  ·exact h
 have hpl:p < f.Odd.length:=by omega
 have hpg:=h2 p _ (Y2 hpl)
 have:p = k:=by
  rcases YG p k with h | h
  ·have:=hs.inc p k _ g h (Y2 hpl) hk
   exact absurd (hpg.2 this) (Nat.lt_irrefl _)
  ·omega
 subst this
 unfold Z2f
 rw [h3]
 simp only [Y0]
 rw [ZK ⟨g,hk,rfl⟩,cond_true,at?_nat hpl]
 rw [Y2 hpl] at hk
 cases hk;rfl
theorem Z88 {f:Form} (hl:Lim f) (hs:Shape f) {i:Int} (hi:In64 i) (ho:¬ ZT f i):Z2f f i = if f.Count = 0 then some ([],0,0) else some (Z0e f i,(fitS (Z4l f i)).1,(fitS (Z4l f i)).2):=by
 obtain ⟨p,h1,h2,h3⟩:=Z5x hl hs.inc i
 unfold Z2f
 rw [h3]
 simp only [Y0]
 rw [ZJ (by rintro ⟨g,hg,he⟩;exact ho ⟨g,Y7 hg,he⟩),cond_false]
 by_cases h0:f.Count = 0
 ·rw [Z84 h0,cond_true,if_pos h0]
 ·rw [Z4i h0,cond_false,if_neg h0,Z2D hi hl.count,Z3k (Z9h hs h0)];simp only [Y0];rw [(Z0t hs h0 i).1];simp only [Y0];have hq:In64 (i / f.Count):=by
   have hp:=Z9h hs h0
   unfold In64 at hi ⊢
   constructor
   ·have : -9223372036854775808≤i / f.Count:=by
     rw [Int.le_ediv_iff_mul_le hp];have:(-9223372036854775808) * f.Count≤-9223372036854775808:=by
      have:(-9223372036854775808) * f.Count≤(-9223372036854775808) * 1:=Int.mul_le_mul_of_nonpos_left (by omega) (by omega)
      omega
     omega
    exact this
   ·have:i / f.Count≤9223372036854775807:=by
     rcases Int.lt_or_le i 0 with h | h
     ·have:i / f.Count < 0:=Y0j h hp
      omega
     ·have:=Y0J f.Count h
      omega
    exact this
  rw [Z7v hq hl.period]
  rfl
def fits (f:Form) (i:Int):Prop:=∀ s ∈ Z1 f i,ZF s.From∧ZF s.To
theorem Z73 (l:List Span):l.map (ZR 0) = l:=by
 have:ZR 0 = id:=by funext s;simp [ZR]
 rw [this,List.map_id]
theorem Z2K {f:Form} {i:Int} (ho:¬ ZT f i) (h0:f.Count ≠ 0):Z1 f i = [] ↔ Z0e f i = []:=by rw [Z2C ho h0,List.map_eq_nil_iff]
open Classical in
theorem Z81 {f:Form} (hl:Lim f) (hs:Shape f) {i:Int} (hi:In64 i):Z0Z f i = some (if ZF i∧fits f i then (Z1 f i,0) else ([],20)):=by
 unfold Z0Z
 rw [Z7H]
 by_cases ht:ZF i
 ·rw [ZK ht,YH,cond_false]
  by_cases ho:ZT f i
  ·obtain ⟨g,hg,rfl⟩:=ho
   have hset:=Z0J hs.inc hg
   have hr:=(hs.odd g hg).1
   have hf:fits f g.Index:=by
    intro s hsm;rw [hset] at hsm;obtain ⟨k,hk⟩:=YB hsm
    exact ⟨(hr.ok k s hk).1,(hr.ok k s hk).2.1⟩
   rw [Z8i hl hs hg,if_pos ⟨ht,hf⟩,hset];simp only [Y0]
   by_cases hn:g.Ticks = []
   ·rw [hn];rfl
   ·have:((g.Ticks.length:Int) == 0) = false:=Z4i (by have:=List.length_pos_iff.2 hn;omega)
    rw [this,cond_false];simp only [bne_self_eq_false,cond_false]
    rcases Z8m (b:=0) (hl.ticks g hg).2.1 hr.sp64 ⟨by decide,by decide⟩ with ⟨_,h2⟩ | ⟨h1,_⟩
    ·rw [h2,Z73];rfl
    ·refine absurd (fun s hsm => ?_) h1
     rw [← hset] at hsm
     simpa using hf s hsm
  ·rw [Z88 hl hs hi ho]
   by_cases h0:f.Count = 0
   ·rw [if_pos h0,if_pos ⟨ht,by intro s hsm;rw [Z0g ho h0] at hsm;cases hsm⟩,Z0g ho h0];rfl
   ·rw [if_neg h0];simp only [Y0]
    by_cases hn:Z0e f i = []
    ·rw [if_pos ⟨ht,by intro s hsm;rw [(Z2K ho h0).2 hn] at hsm;cases hsm⟩,(Z2K ho h0).2 hn,hn];rfl
    ·have:(((Z0e f i).length:Int) == 0) = false:=Z4i (by have:=List.length_pos_iff.2 hn;omega)
     rw [this,cond_false];have hmem:=(Z0t hs h0 i).2
     have hr:=hs.core _ hmem
     have hfe:fits f i ↔ ∀ s ∈ Z0e f i,ZF (s.From + Z4l f i)∧ZF (s.To + Z4l f i):=by
      unfold fits;rw [Z2C ho h0]
      constructor
      ·intro h s hsm;exact h (ZR (Z4l f i) s) (List.mem_map.2 ⟨s,hsm,rfl⟩)
      ·intro h s hsm;obtain ⟨s,hsm',rfl⟩:=List.mem_map.1 hsm
       exact h s hsm'
     rcases Z9H (Z4l f i) with ⟨q1,q2⟩ | ⟨q1,q2⟩ <;> rw [q2]
     ·simp only [bne_self_eq_false,cond_false]
      rcases Z8m (b:=Z4l f i) (hl.sets _ hmem).1 hr.sp64 q1 with ⟨h1,h2⟩ | ⟨h1,h2⟩
      ·rw [h2,if_pos ⟨ht,hfe.2 h1⟩,Z2C ho h0];rfl
      ·rw [h2,if_neg (fun h => h1 (hfe.1 h.2))];rfl
     ·rw [if_neg]
      ·rfl
      ·rintro ⟨_,h⟩;have h:=hfe.1 h
       obtain ⟨s,hsm⟩:=List.exists_mem_of_ne_nil _ hn
       have h1:=(h s hsm).1
       obtain ⟨k,hk⟩:=YB hsm
       have h2:=(hr.ok k s hk).1
       unfold ZF at h1 h2;exact q1 (by unfold In64;omega)
 ·rw [ZJ ht,if_neg (fun h => ht h.1)];rfl
open Classical in
theorem ZA8 {f:Form} (hl:Lim f) (hs:Shape f) {i:Int} (hi:In64 i):Z4Q f i = some (decide (Z1 f i ≠ [])):=by
 unfold Z4Q
 by_cases ho:ZT f i
 ·obtain ⟨g,hg,rfl⟩:=ho
  rw [Z8i hl hs hg,Z0J hs.inc hg];simp only [Y0];cases g.Ticks <;> simp
 ·rw [Z88 hl hs hi ho]
  by_cases h0:f.Count = 0
  ·rw [if_pos h0,Z0g ho h0];rfl
  ·rw [if_neg h0];simp only [Y0,Ne,Z2K ho h0];cases Z0e f i <;> simp
end Go.Dn

namespace Go.Dn
open Go
theorem Z1I {α:Type} {l:List α} {b:Nat} (h:l.length * (b + 1)≤reachBytes):(l.length:Int) < 4611686018427387904:=by
 have:=Z1D
 have:l.length≤l.length * (b + 1):=Nat.le_mul_of_pos_right _ (by omega)
 omega
theorem Z7a {α:Type} {l:List α} {k:Nat} {x:α} (h:l[k]? = some x):at? l (k:Int) = some x∧(k:Int) < l.length:=by
 have hlt:=(List.getElem?_eq_some_iff.1 h).1
 rw [Y2 hlt] at h
 exact ⟨by rw [at?_nat hlt];exact h,by omega⟩
theorem shape_core {f:Form} (hl:Lim f):(loopO (Zj.s0 f) 0 = some (.go ())∧∀ l ∈ f.Core,RightL l)∨(loopO (Zj.s0 f) 0 = some (.ret false)∧¬ ∀ l ∈ f.Core,RightL l):=by
 have hlen:=Z1I (b:=23) hl.core
 rcases Z2x (l:=f.Core) (step:=Zj.s0 f) (fun _ x => RightL x) (no:=.ret false) (yes:=.go ()) (fun k x hk _ => by
   obtain ⟨h1,h2⟩:=Z7a hk
   obtain ⟨b,hb,hr⟩:=Z7c (hl.sets x (Y7 hk)).1 (hl.sets x (Y7 hk)).2
   unfold Zj.s0;rw [ZK h2,cond_true,h1];simp only [Y0,hb,Z9 (show -9223372036854775808≤(k:Int) + 1∧(k:Int) + 1≤9223372036854775807 by omega)]
   cases b
   ·exact .inr ⟨rfl,fun h => by have:=hr.2 h;cases this⟩
   ·exact .inl ⟨rfl,hr.1 rfl⟩) (by unfold Zj.s0;rw [ZJ (by omega)];rfl) with ⟨h1,h2⟩ | ⟨h1,h2⟩
 ·exact .inl ⟨h1,fun l hm => by obtain ⟨k,hk⟩:=YB hm;exact h2 k l hk⟩
 ·exact .inr ⟨h1,fun h => h2 fun k x hk => h x (Y7 hk)⟩
def goodOdd (f:Form) (k:Nat) (g:Granule):Prop:=RightL g.Ticks∧ZF g.Index∧∀ p,k ≠ 0→f.Odd[k - 1]? = some p→p.Index < g.Index
theorem shape_odd {f:Form} (hl:Lim f):(loopO (Zj.s1 f) 0 = some (.go ())∧∀ k g,f.Odd[k]? = some g→goodOdd f k g)∨(loopO (Zj.s1 f) 0 = some (.ret false)∧¬ ∀ k g,f.Odd[k]? = some g→goodOdd f k g):=by
 have hlen:=Z1I (b:=31) hl.odd
 refine Z2x (l:=f.Odd) (step:=Zj.s1 f) (goodOdd f) (no:=.ret false) (yes:=.go ()) (fun k x hk _ => ?_) (by unfold Zj.s1;rw [ZJ (by omega)];rfl)
 obtain ⟨h1,h2⟩:=Z7a hk
 have hx:=hl.ticks x (Y7 hk)
 obtain ⟨b,hb,hr⟩:=Z7c hx.2.1 hx.2.2
 unfold Zj.s1
 rw [ZK h2,cond_true,h1]
 simp only [Y0,hb,Z7H,Z9 (show -9223372036854775808≤(k:Int) + 1∧(k:Int) + 1≤9223372036854775807 by omega)]
 by_cases hbt:b = true∧ZF x.Index
 ·rw [hbt.1,ZK hbt.2];simp only [YH,Y12,cond_false]
  by_cases h0:k = 0
  ·subst h0;exact .inl ⟨by simp,hr.1 hbt.1,hbt.2,fun p h => absurd rfl h⟩
  ·have hpl:k - 1 < f.Odd.length:=by omega
   rw [ZK (show (k:Int) > 0 by omega),cond_true,Z9 (by omega),show (k:Int) - 1 = ((k - 1:Nat):Int) by omega,at?_nat hpl]
   simp only [Y0]
   by_cases hc:x.Index≤f.Odd[k - 1].Index
   ·rw [ZK hc];refine .inr ⟨rfl,fun h => ?_⟩
    have:=h.2.2 _ h0 (Y2 hpl);omega
   ·rw [ZJ hc];refine .inl ⟨rfl,hr.1 hbt.1,hbt.2,fun p _ hp => ?_⟩
    rw [Y2 hpl] at hp;cases hp;omega
 ·have:(!b || !decide (ZF x.Index)) = true:=by
   cases b
   ·rfl
   ·rw [ZJ (fun h => hbt ⟨rfl,h⟩)];rfl
  rw [this,cond_true];exact .inr ⟨rfl,fun h => hbt ⟨hr.2 h.1,h.2.1⟩⟩
theorem inc_of {f:Form} (h:∀ k g,f.Odd[k]? = some g→goodOdd f k g):Inc f.Odd:=by
 intro j k a b hjk ha hb
 induction k generalizing b with
 | zero => omega
 | succ k ih =>
  have hkl:=(List.getElem?_eq_some_iff.1 hb).1
  have h1:=(h (k + 1) b hb).2.2 f.Odd[k] (by omega) (by simp [Y2 (show k < f.Odd.length by omega)])
  rcases YG j k with h2 | h2
  ·have:=ih _ h2 (Y2 (show k < f.Odd.length by omega));omega
  ·have:j = k:=by omega
   subst this;rw [Y2 (show j < f.Odd.length by omega)] at ha;cases ha;exact h1
theorem gran_shape_eq {f:Form} (hl:Lim f):∃ b,Zj f = some b∧(b = true ↔ Shape f):=by
 unfold Zj
 by_cases h1:f.Count = f.Core.length∧(f.Count = 0 ↔ f.Period = 0)∧0≤f.Period∧f.Period≤1099511627776
 ·have e:(f.Count != (f.Core.length:Int) || (f.Count == 0) != (f.Period == 0) || decide (f.Period < 0) || decide (f.Period > 1099511627776)) = false:=by
   rw [Z8l h1.1,ZJ (show ¬ f.Period < 0 by omega),ZJ (show ¬ f.Period > 1099511627776 by omega)]
   simp only [Y0L,Y0R,bne_eq_false_iff_eq,ibeq,decide_eq_decide];exact h1.2.1
  rw [e,cond_false]
  rcases shape_core hl with ⟨h2,h3⟩ | ⟨h2,h3⟩
  ·rw [h2];simp only [Y0,Jx.elim]
   rcases shape_odd hl with ⟨h4,h5⟩ | ⟨h4,h5⟩
   ·rw [h4];exact ⟨true,rfl,fun _ => ⟨h1.1,h1.2.1,h1.2.2,h3,fun g hg => by obtain ⟨k,hk⟩:=YB hg;exact ⟨(h5 k g hk).1,(h5 k g hk).2.1⟩,inc_of h5⟩,fun _ => rfl⟩
   ·rw [h4];refine ⟨false,rfl,fun h => (by cases h),fun h => absurd (fun k g hk => ⟨(h.odd g (Y7 hk)).1,(h.odd g (Y7 hk)).2,fun p h0 hp => h.inc (k - 1) k p g (by omega) hp hk⟩) h5⟩
  ·rw [h2];exact ⟨false,rfl,fun h => (by cases h),fun h => absurd h.core h3⟩
 ·have e:(f.Count != (f.Core.length:Int) || (f.Count == 0) != (f.Period == 0) || decide (f.Period < 0) || decide (f.Period > 1099511627776)) = true:=by
   apply Classical.byContradiction;intro hn;simp only [Y0M,Bool.or_eq_false_iff,bne_eq_false_iff_eq,decide_eq_false_iff_not,ibeq,decide_eq_decide] at hn;exact h1 ⟨hn.1.1.1,hn.1.1.2,by omega,by omega⟩
  rw [e,cond_true];exact ⟨false,rfl,fun h => (by cases h),fun h => absurd ⟨h.count,h.zero,h.per⟩ h1⟩
def fstT (l:List Span):Int:=(l.head?.map Span.From).getD 0
def lstT (l:List Span):Int:=(l.getLast?.map Span.To).getD 0
theorem ZC2 {a b:List Span} (ha:a ≠ []) (hb:b ≠ []):Z3f a b ↔ lstT a < fstT b:=by
 unfold Z3f lstT fstT
 rw [Y02 ha,Y07 hb]
 simp
theorem RightL.tail {s:Span} {l:List Span} (h:RightL (s :: l)):RightL l :=
 ⟨fun k x hk => h.ok (k + 1) x hk,fun k x y hx hy => h.gap (k + 1) x y hx hy⟩
theorem Z13 {l:List Span} (h:RightL l) (hn:l ≠ []):fstT l≤lstT l:=by
 induction l with
 | nil => exact absurd rfl hn
 | cons s l ih =>
  have h0:=h.ok 0 s rfl
  cases l with
  | nil => simp [fstT,lstT];exact h0.2.2
  | cons t l =>
   have h1:=h.gap 0 s t rfl rfl
   have h2:=ih h.tail (by simp)
   have e1:lstT (s :: t :: l) = lstT (t :: l):=by simp [lstT]
   have e2:fstT (t :: l) = t.From:=rfl
   have e3:fstT (s :: t :: l) = s.From:=rfl
   rw [e1,e3];rw [e2] at h2;omega
theorem Z2u {l:List Span} (h:RightL l) (hn:l ≠ []):ZF (lstT l)∧ZF (fstT l):=by
 have h1:l.getLast? = some (l.getLast hn):=Y02 hn
 have h2:l.head? = some (l.head hn):=Y07 hn
 obtain ⟨j,hj⟩:=YB (List.getLast_mem hn)
 obtain ⟨k,hk⟩:=YB (List.head_mem hn)
 unfold lstT fstT
 rw [h1,h2]
 exact ⟨(h.ok j _ hj).2.1,(h.ok k _ hk).1⟩
def full (f:Form):List (List Span):=f.Core.filter (fun l => decide (l.length > 0))
def Turns (f:Form):Prop:=(∀ (k:Nat) (a b:List Span),(full f)[k]? = some a→(full f)[k + 1]? = some b→lstT a < fstT b)∧∀ a b,(full f).getLast? = some a→(full f).head? = some b→lstT a < fstT b + f.Period
theorem full_loop {f:Form} (hl:Lim f):loopO (Z0F.s0 f) (0,[]) = some (full f):=by
 have hlen:=Z1I (b:=23) hl.core
 refine Z1L (I:=fun s r => r = full f∧∃ k:Nat,k≤f.Core.length∧s = ((k:Int),(f.Core.take k).filter (fun l => decide (l.length > 0)))) (fun s => f.Core.length - s.1.toNat) ?_ ⟨rfl,0,YN _,by simp⟩
 rintro s r ⟨rfl,k,hk,rfl⟩
 unfold Z0F.s0
 by_cases hlt:k < f.Core.length
 ·have htake:f.Core.take (k + 1) = f.Core.take k ++ [f.Core[k]]:=Y0P hlt
  simp only;rw [ZK (show (k:Int) < f.Core.length by omega),cond_true,at?_nat hlt,Z9 (by omega)]
  simp only [Y0];refine .inl ?_;have hfl:((f.Core.take k).filter (fun l => decide (l.length > 0))).length≤k:=Ya (Y0G _ _) (by rw [YT];exact Nat.min_le_left _ _)
  by_cases hc:f.Core[k].length > 0
  ·rw [ZK (show ((f.Core[k].length:Int) > 0) by omega),cond_true,app?_ok (by have h1:=hl.core;rw [Z1D] at h1;rw [Z3a];simp only [List.length_singleton];omega)]
   exact ⟨_,rfl,⟨trivial,k + 1,hlt,by rw [htake,List.filter_append];simp [hc]⟩,by simp;omega⟩
  ·rw [ZJ (show ¬ ((f.Core[k].length:Int) > 0) by omega),cond_false]
   exact ⟨_,rfl,⟨trivial,k + 1,hlt,by rw [htake,List.filter_append];simp [hc]⟩,by simp;omega⟩
 ·have:k = f.Core.length:=by omega
  subst this;simp only;rw [ZJ (show ¬ ((f.Core.length:Int) < f.Core.length) by omega),cond_false,YO]
  exact .inr rfl
theorem gran_turns_eq {f:Form} (hl:Lim f) (hs:Shape f):∃ b,Z0F f = some b∧(b = true ↔ Turns f):=by
 have hlen:=Z1I (b:=23) hl.core
 have hfl:(full f).length≤f.Core.length:=Y0G _ _
 have hmem:∀ x ∈ full f,x ∈ f.Core∧x ≠ []:=fun x hx => by
  have:=List.mem_filter.1 hx
  exact ⟨this.1,by rintro rfl;simp at this⟩
 unfold Z0F
 rw [full_loop hl]
 simp only [Y0]
 rcases Z2x (l:=full f) (step:=Z0F.s1 f (full f)) (fun k a => ∀ b,(full f)[(k + 1) % (full f).length]? = some b→lstT a < fstT b + (if k + 1 = (full f).length then f.Period else 0)) (no:=.ret false) (yes:=.go ()) (fun k a hk _ => by
   obtain ⟨h1,h2⟩:=Z7a hk
   have hkl:k < (full f).length:=by omega
   have hmod:(k + 1) % (full f).length < (full f).length:=Nat.mod_lt _ (by omega)
   have hnext:at? (full f) ((((k + 1) % (full f).length:Nat):Int)) = some (full f)[(k + 1) % (full f).length]:=at?_nat hmod
   obtain ⟨ha1,ha2⟩:=hmem a (Y7 hk)
   obtain ⟨hb1,hb2⟩:=hmem _ (YF hmod)
   have hra:=hs.core a ha1
   have hrb:=hs.core _ hb1
   have hal:a.length - 1 < a.length:=by have:=List.length_pos_iff.2 ha2;omega
   have hlast:at? a (w64 ((a.length:Int) - 1)) = some a[a.length - 1]:=by
    have:=Z1I (b:=15) (hl.sets a ha1).1
    rw [Z9 (by omega),show (a.length:Int) - 1 = ((a.length - 1:Nat):Int) by omega,at?_nat hal]
   have hlt:lstT a = a[a.length - 1].To:=by unfold lstT;rw [Y0B,Y2 hal];rfl
   unfold Z0F.s1;rw [ZK h2,cond_true,h1,nz?_ok (by omega),Z9 (x:=(k:Int) + 1) (by omega)]
   have htm:((k:Int) + 1).tmod ((full f).length:Int) = (((k + 1) % (full f).length:Nat):Int):=by
    rw [Int.tmod_eq_emod_of_nonneg (by omega)];push_cast;rfl
   simp only [Y0,htm,hnext,hlast];rw [Y2 hmod];generalize (full f)[(k + 1) % (full f).length] = b at *
   have hb0:at? b 0 = some (b.head hb2):=by
    cases b with
    | nil => exact absurd rfl hb2
    | cons y b => rfl
   have hbf:fstT b = (b.head hb2).From:=by unfold fstT;rw [Y07 hb2];rfl
   have htick:=(Z2u hrb hb2).2
   unfold ZF at htick;have hper:=hs.per
   by_cases hl1:k + 1 = (full f).length
   ·have e:((k:Int) + 1 == ((full f).length:Int)) = true:=Z84 (by omega)
    rw [e,cond_true];simp only [Y0,hb0,← hbf,Z9 (show -9223372036854775808≤fstT b + f.Period∧fstT b + f.Period≤9223372036854775807 by omega),← hlt,if_pos hl1]
    by_cases hc:lstT a ≥ fstT b + f.Period
    ·rw [ZK hc];exact .inr ⟨rfl,fun h => by have:=h b rfl;omega⟩
    ·rw [ZJ hc];exact .inl ⟨rfl,fun b' hb' => by cases hb';omega⟩
   ·have e:((k:Int) + 1 == ((full f).length:Int)) = false:=Z4i (by omega)
    rw [e,cond_false];simp only [Y0,hb0,← hbf,Z9 (show -9223372036854775808≤fstT b + 0∧fstT b + 0≤9223372036854775807 by omega),← hlt,if_neg hl1]
    by_cases hc:lstT a ≥ fstT b + 0
    ·rw [ZK hc];exact .inr ⟨rfl,fun h => by have:=h b rfl;omega⟩
    ·rw [ZJ hc];exact .inl ⟨rfl,fun b' hb' => by cases hb';omega⟩) (by unfold Z0F.s1;rw [ZJ (by omega)];rfl) with ⟨h1,h2⟩ | ⟨h1,h2⟩
 ·rw [h1];refine ⟨true,rfl,fun _ => ⟨fun k a b ha hb => ?_,fun a b ha hb => ?_⟩,fun _ => rfl⟩
  ·have hkl:=(List.getElem?_eq_some_iff.1 hb).1
   have:=h2 k a ha b (by rw [Nat.mod_eq_of_lt hkl];exact hb)
   rw [if_neg (by omega)] at this;omega
  ·have hn:full f ≠ []:=by rintro e;rw [e] at ha;simp at ha
   have hpos:=List.length_pos_iff.2 hn
   rw [Y0B] at ha;have e1:(full f).length - 1 + 1 = (full f).length:=by omega
   have:=h2 _ a ha b (by rw [e1,Nat.mod_self,← List.head?_eq_getElem?];exact hb)
   rw [if_pos e1] at this;exact this
 ·rw [h1];refine ⟨false,rfl,fun h => (by cases h),fun h => absurd (fun k a hk b hb => ?_) h2⟩
  have hkl:=(List.getElem?_eq_some_iff.1 hk).1
  by_cases hl1:k + 1 = (full f).length
  ·rw [if_pos hl1];rw [hl1,Nat.mod_self,← List.head?_eq_getElem?] at hb;exact h.2 a b (by rw [Y0B,← hl1];exact hk) hb
  ·rw [if_neg hl1];rw [Nat.mod_eq_of_lt (by omega)] at hb
   have:=h.1 k a b hk hb;omega
end Go.Dn

namespace Go.Dn
open Go
theorem ZBW {l:List (List Span)} {p:List Span→Bool} (hl:l.length * 24≤reachBytes):ZX l (fun z => some (p z)) = some (decide (∃ x ∈ l,p x = true)):=by
 have hlen:=Z1I (b:=23) hl
 unfold ZX ZE
 by_cases hall:∀ (k:Nat) (x:List Span),l[k]? = some x→¬ p x = true
 ·have:loopO (ZE.s0 l (fun z => some (p z))) 0 = some (.go ()):=by
   refine Z1L (I:=fun (s:Int) r => r = .go ()∧∃ k:Nat,s = k∧k≤l.length) (fun s => l.length - s.toNat) ?_ ⟨rfl,0,rfl,YN _⟩
   rintro s r ⟨rfl,k,rfl,hk⟩;unfold ZE.s0
   by_cases hlt:k < l.length
   ·rw [ZK (show (k:Int) < l.length by omega),cond_true,at?_nat hlt,Z9 (by omega)]
    have:=hall k _ (Y2 hlt)
    simp only [Y0,Y0M] at this ⊢;rw [this];exact .inl ⟨_,rfl,⟨trivial,k + 1,by push_cast;rfl,hlt⟩,by simp;omega⟩
   ·rw [ZJ (show ¬ (k:Int) < l.length by omega)];exact .inr rfl
  rw [this,ZJ (by rintro ⟨x,hx,hp⟩;obtain ⟨k,hk⟩:=YB hx;exact hall k x hk hp)]
  rfl
 ·obtain ⟨k0,x0,hx0,hb0,hg⟩:=ZAJ (good:=fun _ x => ¬ p x = true) hall
  have hb0:p x0 = true:=Classical.byContradiction hb0
  have hlt0:=(List.getElem?_eq_some_iff.1 hx0).1
  have:loopO (ZE.s0 l (fun z => some (p z))) 0 = some (.ret (k0:Int)):=by
   refine Z1L (I:=fun (s:Int) r => r = .ret (k0:Int)∧∃ k:Nat,s = k∧k≤k0) (fun s => l.length - s.toNat) ?_ ⟨rfl,0,rfl,YN _⟩
   rintro s r ⟨rfl,k,rfl,hk⟩;unfold ZE.s0;have hkl:k < l.length:=by omega
   rw [ZK (show (k:Int) < l.length by omega),cond_true,at?_nat hkl,Z9 (by omega)]
   by_cases hlt:k < k0
   ·have:=hg k _ hlt (Y2 hkl)
    simp only [Y0,Y0M] at this ⊢;rw [this];exact .inl ⟨_,rfl,⟨trivial,k + 1,by push_cast;rfl,hlt⟩,by simp;omega⟩
   ·have:k = k0:=by omega
    subst this;rw [Y2 hkl] at hx0;cases hx0;simp only [Y0,hb0];exact .inr rfl
  rw [this,ZK ⟨x0,Y7 hx0,hb0⟩];simp only [Y0,Jx.elim];rw [ZK (by omega)]
def Bare (f:Form):Prop:=∀ l ∈ f.Core,l = []
theorem Z72 {f:Form} (hl:Lim f):∃ b,Z38 f = some b∧(b = true ↔ Bare f):=by
 unfold Z38
 rw [ZBW hl.core]
 refine ⟨_,rfl,?_⟩
 simp only [Z4o,Yh,decide_eq_false_iff_not,decide_eq_true_eq]
 constructor
 ·intro h l hm;apply Classical.byContradiction;intro hn;exact h ⟨l,hm,by have:=List.length_pos_iff.2 hn;omega⟩
 ·rintro h ⟨l,hm,hp⟩;rw [h l hm] at hp;simp at hp
theorem Z6w {f:Form} (hs:Shape f) (hb:Bare f) {i:Int} (ho:¬ ZT f i):Z1 f i = []:=by
 by_cases h0:f.Count = 0
 ·exact Z0g ho h0
 ·exact (Z2K ho h0).2 (hb _ (Z0t hs h0 i).2)
def UpTo (f:Form) (i:Int) (r:Int × Bool):Prop:=(r.2 = true∧i≤r.1∧ZF r.1∧Z1 f r.1 ≠ []∧∀ k,i≤k→k < r.1→Z1 f k = [])∨(r.2 = false∧r.1 = 0∧∀ k,i≤k→ZF k→Z1 f k = [])
def DownTo (f:Form) (i:Int) (r:Int × Bool):Prop:=(r.2 = true∧r.1≤i∧ZF r.1∧Z1 f r.1 ≠ []∧∀ k,k≤i→r.1 < k→Z1 f k = [])∨(r.2 = false∧r.1 = 0∧∀ k,k≤i→ZF k→Z1 f k = [])
theorem odd_split {f:Form} (hs:Shape f) {p:Nat} {i:Int} (hp:∀ (k:Nat) (g:Granule),f.Odd[k]? = some g→(k < p ↔ g.Index < i)) {j:Int} (hj:ZT f j):∃ (k:Nat) (g:Granule),f.Odd[k]? = some g∧g.Index = j∧(k < p ↔ j < i):=by
 obtain ⟨g,hg,rfl⟩:=hj
 obtain ⟨k,hk⟩:=YB hg
 exact ⟨k,g,hk,rfl,hp k g hk⟩
theorem gran_step_up {f:Form} (hl:Lim f) (hs:Shape f) {i:Int} (hi : -1099511627776≤i∧i≤1099511627776):∃ r,Zu f i 1 = some r∧UpTo f i r:=by
 have hi64:In64 i:=by unfold In64;omega
 obtain ⟨b,hb,hbb⟩:=Z72 hl
 have holen:=Z1I (b:=31) hl.odd
 unfold Zu
 rw [hb]
 simp only [Y0]
 cases b with
 | true =>
  have hbare:=hbb.1 rfl
  rw [cond_true];obtain ⟨p,h1,h2,h3⟩:=Z5x hl hs.inc i
  rw [h3];simp only [Y0,ZJ (show ¬ (1:Int) < 0 by omega),Bool.false_and,cond_false]
  obtain ⟨r,hr,hpost⟩:=Zv (step:=Zu.s0 f 1) (I:=fun (s:Int) => ∃ k:Nat,s = k∧p≤k∧k≤f.Odd.length∧∀ (j:Nat) (g:Granule),f.Odd[j]? = some g→p≤j→j < k→g.Ticks = []) (fun s => f.Odd.length - s.toNat)
   (fun r => (∃ (k:Nat) (g:Granule),r = .ret (g.Index,true)∧f.Odd[k]? = some g∧p≤k∧g.Ticks ≠ []∧∀ (j:Nat) (g':Granule),f.Odd[j]? = some g'→p≤j→j < k→g'.Ticks = [])∨(r = .go ()∧∀ (j:Nat) (g':Granule),f.Odd[j]? = some g'→p≤j→g'.Ticks = [])) (by
   rintro s ⟨k,rfl,hpk,hk,hn⟩;unfold Zu.s0
   by_cases hlt:k < f.Odd.length
   ·rw [ZK (show (k:Int) ≥ 0 by omega),ZK (show (k:Int) < f.Odd.length by omega),Y0Q,cond_true,at?_nat hlt,Z9 (by omega)]
    simp only [Y0];have hget:=Y2 hlt
    by_cases hc:f.Odd[k].Ticks = []
    ·rw [hc];refine .inl ⟨(k:Int) + 1,rfl,⟨k + 1,by push_cast;rfl,by omega,hlt,fun j g hj hpj hjk => ?_⟩,by simp;omega⟩
     rcases YG j k with h | h
     ·exact hn j g hj hpj h
     ·have:j = k:=by omega
      subst this;rw [hget] at hj;cases hj;exact hc
    ·rw [ZK (show ((f.Odd[k].Ticks.length:Int) > 0) by have:=List.length_pos_iff.2 hc;omega),cond_true]
     exact .inr ⟨_,rfl,.inl ⟨k,_,rfl,hget,hpk,hc,hn⟩⟩
   ·rw [ZJ (show ¬ (k:Int) < f.Odd.length by omega),Bool.and_false,cond_false]
    refine .inr ⟨_,rfl,.inr ⟨rfl,fun j g hj hpj => hn j g hj hpj ?_⟩⟩
    have:=(List.getElem?_eq_some_iff.1 hj).1;omega) (p:Int) ⟨p,rfl,YC _,h1,fun j g _ h h' => by omega⟩
  rw [hr];simp only [Y0]
  rcases hpost with ⟨k,g,rfl,hk,hpk,hne,hn⟩ | ⟨rfl,hn⟩
  ·have hset:=Z0J hs.inc (Y7 hk)
   have hgi:¬ g.Index < i:=fun h => by have:=(h2 k g hk).2 h;omega
   refine ⟨_,rfl,.inl ⟨rfl,by simp only;omega,(hs.odd g (Y7 hk)).2,by simp only;rw [hset];exact hne,fun j hij hjg => ?_⟩⟩
   simp only at hjg
   by_cases ho:ZT f j
   ·obtain ⟨k',g',hk',rfl,hiff⟩:=odd_split hs h2 ho
    rw [Z0J hs.inc (Y7 hk')];refine hn k' g' hk' ?_ ?_
    ·rcases YG k' p with h | h
     ·have:=hiff.1 h;omega
     ·exact h
    ·rcases YG k' k with h | h
     ·exact h
     ·rcases YG k k' with h' | h'
      ·have:=hs.inc k k' g g' h' hk hk';omega
      ·have:k = k':=by omega
       subst this;rw [hk] at hk';cases hk';omega
   ·exact Z6w hs hbare ho
  ·refine ⟨_,rfl,.inr ⟨rfl,rfl,fun j hij _ => ?_⟩⟩
   by_cases ho:ZT f j
   ·obtain ⟨k',g',hk',rfl,hiff⟩:=odd_split hs h2 ho
    rw [Z0J hs.inc (Y7 hk')];refine hn k' g' hk' ?_
    rcases YG k' p with h | h
    ·have:=hiff.1 h;omega
    ·exact h
   ·exact Z6w hs hbare ho
 | false =>
  rw [cond_false];obtain ⟨r,hr,hpost⟩:=Zv (step:=Zu.s1 f 1) (I:=fun (s:Int) => i≤s∧s≤1099511627777∧∀ k,i≤k→k < s→Z1 f k = []) (fun s => (1099511627777 - s).toNat)
   (fun r => (∃ j,r = .ret (j,true)∧i≤j∧ZF j∧Z1 f j ≠ []∧∀ k,i≤k→k < j→Z1 f k = [])∨(r = .go ()∧∀ k,i≤k→ZF k→Z1 f k = [])) (by
   rintro s ⟨hs1,hs2,hn⟩;unfold Zu.s1;rw [Z7H]
   by_cases ht:ZF s
   ·rw [ZK ht,cond_true,ZA8 hl hs (Z3M ht),Z9 (by unfold ZF at ht;omega)]
    simp only [Y0]
    by_cases hc:Z1 f s = []
    ·rw [hc];refine .inl ⟨s + 1,by simp,⟨by omega,by unfold ZF at ht;omega,fun k hk hks => ?_⟩,by unfold ZF at ht;omega⟩
     by_cases h:k = s
     ·rw [h];exact hc
     ·exact hn k hk (by omega)
    ·rw [ZK hc,cond_true];exact .inr ⟨_,rfl,.inl ⟨s,rfl,hs1,ht,hc,hn⟩⟩
   ·rw [ZJ ht,cond_false];exact .inr ⟨_,rfl,.inr ⟨rfl,fun k hk htk => hn k hk (by unfold ZF at ht htk;omega)⟩⟩) i ⟨Yy _,by omega,fun k h h' => by omega⟩
  rw [hr];simp only [Y0]
  rcases hpost with ⟨j,rfl,h1,h2,h3,h4⟩ | ⟨rfl,hn⟩
  ·exact ⟨_,rfl,.inl ⟨rfl,h1,h2,h3,h4⟩⟩
  ·exact ⟨_,rfl,.inr ⟨rfl,rfl,hn⟩⟩
theorem ZC9 {f:Form} (hl:Lim f) (hs:Shape f) {i:Int} (hi : -1099511627776≤i∧i≤1099511627776):∃ r,Zu f i (-1) = some r∧DownTo f i r:=by
 have hi64:In64 i:=by unfold In64;omega
 obtain ⟨b,hb,hbb⟩:=Z72 hl
 have holen:=Z1I (b:=31) hl.odd
 unfold Zu
 rw [hb]
 simp only [Y0]
 cases b with
 | true =>
  have hbare:=hbb.1 rfl
  rw [cond_true];obtain ⟨p,h1,h2,h3⟩:=Z5x hl hs.inc i
  rw [h3]
  -- the number of exceptions up to the index
  obtain ⟨q,hq1,hq2,hq3⟩ : ∃ q:Nat,q≤f.Odd.length∧(∀ (k:Nat) (g:Granule),f.Odd[k]? = some g→(k < q ↔ g.Index≤i))∧((bif (decide ((-1:Int) < 0) && !decide (∃ g,f.Odd[p]? = some g∧g.Index = i)) then some (w64 ((p:Int) - 1)) else some (p:Int)):Option Int) = some ((q:Int) - 1):=by
   by_cases he:∃ g,f.Odd[p]? = some g∧g.Index = i
   ·obtain ⟨g,hg,hgi⟩:=he
    have hpl:=(List.getElem?_eq_some_iff.1 hg).1
    refine ⟨p + 1,by omega,fun k g' hk => ?_,by rw [ZK (p:=∃ g,f.Odd[p]? = some g∧g.Index = i) ⟨g,hg,hgi⟩];simp⟩
    have:=h2 k g' hk
    constructor
    ·intro h
     rcases YG k p with h' | h'
     ·have:=this.1 h';omega
     ·have:k = p:=by omega
      subst this;rw [hg] at hk;cases hk;omega
    ·intro h
     rcases YG p k with h' | h'
     ·have:=hs.inc p k g g' h' hg hk;omega
     ·omega
   ·refine ⟨p,h1,fun k g' hk => ?_,by rw [ZJ (p:=∃ g,f.Odd[p]? = some g∧g.Index = i) he,Z9 (by omega)];simp⟩
    have:=h2 k g' hk
    constructor
    ·intro h;have:=this.1 h;omega
    ·intro h
     by_cases hgi:g'.Index = i
     ·exfalso
      have hkp:¬ k < p:=fun h' => by have:=this.1 h';omega
      rcases YG p k with h' | h'
      ·have hpl:p < f.Odd.length:=by have:=(List.getElem?_eq_some_iff.1 hk).1;omega
       have h5:=hs.inc p k _ g' h' (Y2 hpl) hk
       have h6:=(h2 p _ (Y2 hpl)).2 (by omega)
       omega
      ·have:k = p:=by omega
       subst this;exact he ⟨g',hk,hgi⟩
     ·exact this.2 (by omega)
  simp only [Y0];rw [hq3];simp only [Y0];obtain ⟨r,hr,hpost⟩:=Zv (step:=Zu.s0 f (-1)) (I:=fun (s:Int) => ∃ k:Nat,s = (k:Int) - 1∧k≤q∧∀ (j:Nat) (g:Granule),f.Odd[j]? = some g→k≤j→j < q→g.Ticks = []) (fun s => (s + 1).toNat)
   (fun r => (∃ (k:Nat) (g:Granule),r = .ret (g.Index,true)∧f.Odd[k]? = some g∧k < q∧g.Ticks ≠ []∧∀ (j:Nat) (g':Granule),f.Odd[j]? = some g'→k < j→j < q→g'.Ticks = [])∨(r = .go ()∧∀ (j:Nat) (g':Granule),f.Odd[j]? = some g'→j < q→g'.Ticks = [])) (by
   rintro s ⟨k,rfl,hk,hn⟩;unfold Zu.s0
   by_cases h0:0 < k
   ·have hlt:k - 1 < f.Odd.length:=by omega
    rw [ZK (show (k:Int) - 1 ≥ 0 by omega),ZK (show (k:Int) - 1 < f.Odd.length by omega),Y0Q,cond_true,show (k:Int) - 1 = ((k - 1:Nat):Int) by omega,at?_nat hlt,Z9 (by omega)]
    simp only [Y0];have hget:=Y2 hlt
    by_cases hc:f.Odd[k - 1].Ticks = []
    ·rw [hc];refine .inl ⟨((k - 1:Nat):Int) + -1,rfl,⟨k - 1,by omega,by omega,fun j g hj hpj hjk => ?_⟩,by simp;omega⟩
     rcases YG j k with h | h
     ·have:j = k - 1:=by omega
      subst this;rw [hget] at hj;cases hj;exact hc
     ·exact hn j g hj h hjk
    ·rw [ZK (show ((f.Odd[k - 1].Ticks.length:Int) > 0) by have:=List.length_pos_iff.2 hc;omega),cond_true]
     exact .inr ⟨_,rfl,.inl ⟨k - 1,_,rfl,hget,by omega,hc,fun j g hj h1 h2 => hn j g hj (by omega) h2⟩⟩
   ·rw [ZJ (show ¬ (k:Int) - 1 ≥ 0 by omega),Bool.false_and,cond_false]
    exact .inr ⟨_,rfl,.inr ⟨rfl,fun j g hj hjq => hn j g hj (by omega) hjq⟩⟩) ((q:Int) - 1) ⟨q,rfl,YC _,fun j g _ h h' => by omega⟩
  rw [hr];simp only [Y0]
  rcases hpost with ⟨k,g,rfl,hk,hkq,hne,hn⟩ | ⟨rfl,hn⟩
  ·have hset:=Z0J hs.inc (Y7 hk)
   have hgi:=(hq2 k g hk).1 hkq
   refine ⟨_,rfl,.inl ⟨rfl,hgi,(hs.odd g (Y7 hk)).2,by simp only;rw [hset];exact hne,fun j hij hjg => ?_⟩⟩
   simp only at hjg
   by_cases ho:ZT f j
   ·obtain ⟨g',hg',rfl⟩:=ho
    obtain ⟨k',hk'⟩:=YB hg'
    rw [Z0J hs.inc hg'];refine hn k' g' hk' ?_ ((hq2 k' g' hk').2 hij)
    rcases YG k k' with h | h
    ·exact h
    ·rcases YG k' k with h' | h'
     ·have:=hs.inc k' k g' g h' hk' hk;omega
     ·have:k = k':=by omega
      subst this;rw [hk] at hk';cases hk';omega
   ·exact Z6w hs hbare ho
  ·refine ⟨_,rfl,.inr ⟨rfl,rfl,fun j hij _ => ?_⟩⟩
   by_cases ho:ZT f j
   ·obtain ⟨g',hg',rfl⟩:=ho
    obtain ⟨k',hk'⟩:=YB hg'
    rw [Z0J hs.inc hg'];exact hn k' g' hk' ((hq2 k' g' hk').2 hij)
   ·exact Z6w hs hbare ho
 | false =>
  rw [cond_false];obtain ⟨r,hr,hpost⟩:=Zv (step:=Zu.s1 f (-1)) (I:=fun (s:Int) => s≤i∧-1099511627777≤s∧∀ k,k≤i→s < k→Z1 f k = []) (fun s => (s + 1099511627777).toNat)
   (fun r => (∃ j,r = .ret (j,true)∧j≤i∧ZF j∧Z1 f j ≠ []∧∀ k,k≤i→j < k→Z1 f k = [])∨(r = .go ()∧∀ k,k≤i→ZF k→Z1 f k = [])) (by
   rintro s ⟨hs1,hs2,hn⟩;unfold Zu.s1;rw [Z7H]
   by_cases ht:ZF s
   ·rw [ZK ht,cond_true,ZA8 hl hs (Z3M ht),Z9 (by unfold ZF at ht;omega)]
    simp only [Y0]
    by_cases hc:Z1 f s = []
    ·rw [hc];refine .inl ⟨s + -1,by simp,⟨by omega,by unfold ZF at ht;omega,fun k hk hks => ?_⟩,by unfold ZF at ht;omega⟩
     by_cases h:k = s
     ·rw [h];exact hc
     ·exact hn k hk (by omega)
    ·rw [ZK hc,cond_true];exact .inr ⟨_,rfl,.inl ⟨s,rfl,hs1,ht,hc,hn⟩⟩
   ·rw [ZJ ht,cond_false];exact .inr ⟨_,rfl,.inr ⟨rfl,fun k hk htk => hn k hk (by unfold ZF at ht htk;omega)⟩⟩) i ⟨Yy _,by omega,fun k h h' => by omega⟩
  rw [hr];simp only [Y0]
  rcases hpost with ⟨j,rfl,h1,h2,h3,h4⟩ | ⟨rfl,hn⟩
  ·exact ⟨_,rfl,.inl ⟨rfl,h1,h2,h3,h4⟩⟩
  ·exact ⟨_,rfl,.inr ⟨rfl,rfl,hn⟩⟩
def Above (f:Form) (i:Int) (r:Int × Bool):Prop:=(r.2 = true∧i < r.1∧ZF r.1∧Z1 f r.1 ≠ []∧∀ k,i < k→k < r.1→ZF k→Z1 f k = [])∨(r.2 = false∧r.1 = 0∧∀ k,i < k→ZF k→Z1 f k = [])
def Under (f:Form) (i:Int) (r:Int × Bool):Prop:=(r.2 = true∧r.1 < i∧ZF r.1∧Z1 f r.1 ≠ []∧∀ k,k < i→r.1 < k→ZF k→Z1 f k = [])∨(r.2 = false∧r.1 = 0∧∀ k,k < i→ZF k→Z1 f k = [])
theorem Z5f {f:Form} (hl:Lim f) (hs:Shape f) {i:Int} (hi:In64 i):∃ r,Z22 f i = some r∧Above f i r:=by
 unfold Z22
 by_cases h:i ≥ 1099511627776
 ·rw [ZK h,cond_true];exact ⟨_,rfl,.inr ⟨rfl,rfl,fun k hk ht => by unfold ZF at ht;omega⟩⟩
 ·rw [ZJ h,cond_false,Z9 (by unfold In64 at hi;omega)]
  have hm:iMax (i + 1) (-1099511627776) = max (i + 1) (-1099511627776):=by unfold iMax;omega
  rw [hm];obtain ⟨r,h1,h2⟩:=gran_step_up hl hs (i:=max (i + 1) (-1099511627776)) (by omega)
  rw [h1];refine ⟨r,rfl,?_⟩
  rcases h2 with ⟨a,b,c,d,e⟩ | ⟨a,b,e⟩
  ·exact .inl ⟨a,by omega,c,d,fun k hk hkr ht => e k (by unfold ZF at ht;omega) hkr⟩
  ·exact .inr ⟨a,b,fun k hk ht => e k (by have:=ht;unfold ZF at this;omega) ht⟩
theorem Z5V {f:Form} (hl:Lim f) (hs:Shape f) {i:Int} (hi:In64 i):∃ r,Z1n f i = some r∧Under f i r:=by
 unfold Z1n
 by_cases h:i≤-1099511627776
 ·rw [ZK h,cond_true];exact ⟨_,rfl,.inr ⟨rfl,rfl,fun k hk ht => by unfold ZF at ht;omega⟩⟩
 ·rw [ZJ h,cond_false,Z9 (by unfold In64 at hi;omega)]
  have hm:iMin (i - 1) 1099511627776 = min (i - 1) 1099511627776:=by unfold iMin;omega
  rw [hm];obtain ⟨r,h1,h2⟩:=ZC9 hl hs (i:=min (i - 1) 1099511627776) (by omega)
  rw [h1];refine ⟨r,rfl,?_⟩
  rcases h2 with ⟨a,b,c,d,e⟩ | ⟨a,b,e⟩
  ·exact .inl ⟨a,by omega,c,d,fun k hk hkr ht => e k (by unfold ZF at ht;omega) hkr⟩
  ·exact .inr ⟨a,b,fun k hk ht => e k (by have:=ht;unfold ZF at this;omega) ht⟩
end Go.Dn

namespace Go.Dn
open Go
def BesideR (f:Form) (i:Int) (lo hi:Int × Bool):Prop :=
 fits f i∧(lo.2 = true→fits f lo.1∧Z3f (Z1 f lo.1) (Z1 f i))∧(hi.2 = true→fits f hi.1∧Z3f (Z1 f i) (Z1 f hi.1))∧(lo.2 = true→hi.2 = true→Z3f (Z1 f lo.1) (Z1 f hi.1))
theorem aheadL_nil_l (b:List Span):Z3f [] b:=by intro x hx;cases hx
theorem aheadL_nil_r (a:List Span):Z3f a []:=by intro x _ y hy;cases hy
theorem ZAV {f:Form} (hl:Lim f) (hs:Shape f) (i:Int):Len (Z1 f i):=by
 by_cases ho:ZT f i
 ·obtain ⟨g,hg,rfl⟩:=ho
  rw [Z0J hs.inc hg];exact (hl.ticks g hg).2.1
 ·by_cases h0:f.Count = 0
  ·rw [Z0g ho h0];unfold Len;simp
  ·rw [Z2C ho h0];unfold Len;rw [YZ];exact (hl.sets _ (Z0t hs h0 i).2).1
theorem Z4d {f:Form} (hs:Shape f) {i:Int} (hf:fits f i):RightL (Z1 f i):=by
 by_cases ho:ZT f i
 ·obtain ⟨g,hg,rfl⟩:=ho
  rw [Z0J hs.inc hg];exact (hs.odd g hg).1
 ·by_cases h0:f.Count = 0
  ·rw [Z0g ho h0];exact ⟨by simp,by simp⟩
  ·unfold fits at hf;rw [Z2C ho h0] at hf ⊢;exact (hs.core _ (Z0t hs h0 i).2).shift fun s hs' => hf (ZR (Z4l f i) s) (List.mem_map.2 ⟨s,hs',rfl⟩)
theorem near_l {c:Bool} {X S:List Span}:Z3f (if c = true then X else []) S ↔ (c = true→Z3f X S):=by
 cases c
 ·simp [aheadL_nil_l]
 ·simp
theorem near_r {c:Bool} {X S:List Span}:Z3f S (if c = true then X else []) ↔ (c = true→Z3f S X):=by
 cases c
 ·simp [aheadL_nil_r]
 ·simp
noncomputable def sideG (f:Form) (r:Int × Bool):Option (Jx (List Span) Bool) :=
 (bif r.2 then (Z0Z f r.1).bind fun x => (bif (x.2 != 0) then some (.ret false) else some (.go x.1)) else some (.go []))
open Classical in
theorem sideG_eq {f:Form} (hl:Lim f) (hs:Shape f) {r:Int × Bool} (ht:r.2 = true→ZF r.1):(r.2 = true∧¬ fits f r.1∧sideG f r = some (.ret false))∨((r.2 = true→fits f r.1)∧sideG f r = some (.go (if r.2 = true then Z1 f r.1 else []))):=by
 obtain ⟨j,c⟩:=r
 unfold sideG
 cases c with
 | false => exact .inr ⟨by simp,by simp⟩
 | true =>
  simp only [cond_true];rw [Z81 hl hs (Z3M (ht rfl))]
  by_cases hfl:fits f j
  ·rw [if_pos ⟨ht rfl,hfl⟩];exact .inr ⟨fun _ => hfl,by simp⟩
  ·rw [if_neg (fun h => hfl h.2)];exact .inl ⟨trivial,hfl,rfl⟩
open Classical in
theorem ZBp {f:Form} (hl:Lim f) (hs:Shape f) {i:Int} (hi:ZF i) {lo hi':Int × Bool} (hlo:Z1n f i = some lo) (hhi:Z22 f i = some hi') (tlo:lo.2 = true→ZF lo.1) (thi:hi'.2 = true→ZF hi'.1) :
  ∃ b,Z25 f i = some b∧(b = true ↔ BesideR f i lo hi'):=by
 have e:Z25 f i = (Z0Z f i).bind fun x1 => (bif (x1.2 != 0) then some false else (sideG f lo).bind fun y1 => y1.elim (fun r' => some r') fun a2 => (sideG f hi').bind fun y2 => y2.elim (fun r' => some r') fun a4 =>
   (Z0j a2 x1.1).bind fun x6 => ((bif x6 then (Z0j x1.1 a4).bind fun x7 => some x7 else some false)).bind fun y3 => ((bif y3 then (Z0j a2 a4).bind fun x8 => some x8 else some false)).bind fun y4 => some y4):=by
  unfold Z25 sideG;rw [hlo,hhi];simp only [Y0]
 rw [e,Z81 hl hs (Z3M hi)]
 clear e
 by_cases hf:fits f i
 ·rw [if_pos ⟨hi,hf⟩];simp only [Y0,bne_self_eq_false,cond_false]
  rcases sideG_eq hl hs tlo with ⟨h1,h2,h0⟩ | ⟨h1,h0⟩
  ·rw [h0];exact ⟨false,rfl,fun h => (by cases h),fun h => absurd (h.2.1 h1).1 h2⟩
  ·rw [h0];simp only [Y0,Jx.elim]
   rcases sideG_eq hl hs thi with ⟨h3,h4,h0'⟩ | ⟨h3,h0'⟩
   ·rw [h0'];exact ⟨false,rfl,fun h => (by cases h),fun h => absurd (h.2.2.1 h3).1 h4⟩
   ·rw [h0'];simp only [Y0];have lenA:Len (if lo.2 = true then Z1 f lo.1 else []):=by
     by_cases hc:lo.2 = true
     ·rw [if_pos hc];exact ZAV hl hs _
     ·rw [if_neg hc];unfold Len;simp
    generalize hA:(if lo.2 = true then Z1 f lo.1 else []) = A at lenA
    generalize hB:(if hi'.2 = true then Z1 f hi'.1 else []) = B
    obtain ⟨r1,q1,p1⟩:=Z5U (b:=Z1 f i) lenA
    obtain ⟨r2,q2,p2⟩:=Z5U (a:=Z1 f i) (b:=B) (ZAV hl hs i)
    obtain ⟨r3,q3,p3⟩:=Z5U (b:=B) lenA
    rw [q1,q2,q3];subst hA hB;rw [near_l] at p1;rw [near_r] at p2;rw [near_l,near_r] at p3;refine ⟨r1 && r2 && r3,by cases r1 <;> cases r2 <;> rfl,?_⟩
    rw [Y9,Y9,p1,p2,p3]
    constructor
    ·rintro ⟨⟨a,b⟩,c⟩;exact ⟨hf,fun h => ⟨h1 h,a h⟩,fun h => ⟨h3 h,b h⟩,c⟩
    ·rintro ⟨_,a,b,c⟩;exact ⟨⟨fun h => (a h).2,fun h => (b h).2⟩,c⟩
 ·rw [if_neg (fun h => hf h.2)]
  exact ⟨false,rfl,fun h => (by cases h),fun h => absurd h.1 hf⟩
def Beside (f:Form) (i:Int):Prop:=∀ lo hi,Under f i lo→Above f i hi→BesideR f i lo hi
theorem Under.uniq {f:Form} {i:Int} {r r':Int × Bool} (h:Under f i r) (h':Under f i r'):r = r':=by
 obtain ⟨a,b⟩:=r
 obtain ⟨a',b'⟩:=r'
 rcases h with ⟨rfl,h1,h2,h3,h4⟩ | ⟨rfl,rfl,h4⟩ <;> rcases h' with ⟨rfl,k1,k2,k3,k4⟩ | ⟨rfl,rfl,k4⟩
 ·simp only at *
  rcases Int.lt_trichotomy a a' with h | h | h
  ·exact absurd (h4 a' k1 h k2) k3
  ·rw [h]
  ·exact absurd (k4 a h1 h h2) h3
 ·exact absurd (k4 a h1 h2) h3
 ·exact absurd (h4 a' k1 k2) k3
 ·rfl
theorem Above.uniq {f:Form} {i:Int} {r r':Int × Bool} (h:Above f i r) (h':Above f i r'):r = r':=by
 obtain ⟨a,b⟩:=r
 obtain ⟨a',b'⟩:=r'
 rcases h with ⟨rfl,h1,h2,h3,h4⟩ | ⟨rfl,rfl,h4⟩ <;> rcases h' with ⟨rfl,k1,k2,k3,k4⟩ | ⟨rfl,rfl,k4⟩
 ·simp only at *
  rcases Int.lt_trichotomy a a' with h | h | h
  ·exact absurd (k4 a h1 h h2) h3
  ·rw [h]
  ·exact absurd (h4 a' k1 h k2) k3
 ·exact absurd (k4 a h1 h2) h3
 ·exact absurd (h4 a' k1 k2) k3
 ·rfl
theorem ZBd {f:Form} (hl:Lim f) (hs:Shape f) {i:Int} (hi:ZF i):∃ b,Z25 f i = some b∧(b = true ↔ Beside f i):=by
 obtain ⟨lo,h1,h2⟩:=Z5V hl hs (Z3M hi)
 obtain ⟨hi',h3,h4⟩:=Z5f hl hs (Z3M hi)
 obtain ⟨b,h5,h6⟩:=ZBp hl hs hi h1 h3 (fun h => by rcases h2 with ⟨_,_,h,_⟩ | ⟨h',_⟩ <;> simp_all) (fun h => by rcases h4 with ⟨_,_,h,_⟩ | ⟨h',_⟩ <;> simp_all)
 refine ⟨b,h5,h6.trans ⟨fun h lo' hi'' q1 q2 => ?_,fun h => h lo hi' h2 h4⟩⟩
 rw [q1.uniq h2,q2.uniq h4];exact h
def sizeF (f:Form):Nat:=(f.Core.map List.length).sum + (f.Odd.map (·.Ticks.length)).sum
theorem sum_take {α:Type} (g:α→Nat) {l:List α} {k:Nat} (h:k < l.length):((l.take (k + 1)).map g).sum = ((l.take k).map g).sum + g l[k]:=by
 rw [Y0P h,Y05,List.sum_append];simp
theorem ZA4 {f:Form} (hl:Lim f) (hc:f.Core.length≤6000) (ho:f.Odd.length≤6000):Z0A f = some (sizeF f:Int):=by
 have hr:=Z1D
 have lenC:∀ l ∈ f.Core,l.length≤8796093022207:=fun l hm => by have:=(hl.sets l hm).1;unfold Len at this;omega
 have lenO:∀ g ∈ f.Odd,g.Ticks.length≤8796093022207:=fun l hm => by have:=(hl.ticks l hm).2.1;unfold Len at this;omega
 obtain ⟨a,h1,h2,h3⟩:=fold_loop (l:=f.Core) (step:=Z0A.s0 f) (f:=fun a _ x => a + (x.length:Int)) (fin:=id) (a0:=(0:Int)) (fun k a => a = ((((f.Core.take k).map List.length).sum:Nat):Int)∧a≤k * 8796093022207) ⟨by simp,by simp⟩ (fun k x a hk ⟨ha,hb⟩ => by
   obtain ⟨q1,q2⟩:=Z7a hk
   have hx:=lenC x (Y7 hk)
   have hkl:k < f.Core.length:=by omega
   have h0:0≤a:=by rw [ha];omega
   unfold Z0A.s0;simp only;rw [ZK q2,cond_true,q1,Z9 (x:=(k:Int) + 1) (by omega)]
   simp only [Y0];rw [Z9 (x:=a + (x.length:Int)) (by omega)]
   refine ⟨rfl,?_,by push_cast;omega⟩
   rw [sum_take _ hkl];rw [Y2 hkl] at hk;cases hk;rw [ha];push_cast;rfl) (fun a _ => by unfold Z0A.s0;simp only;rw [ZJ (by omega)];rfl)
 rw [YO] at h2
 obtain ⟨b,h4,h5,h6⟩:=fold_loop (l:=f.Odd) (step:=Z0A.s1 f) (f:=fun a _ x => a + (x.Ticks.length:Int)) (fin:=id) (a0:=a) (fun k b => b = a + ((((f.Odd.take k).map (·.Ticks.length)).sum:Nat):Int)∧b≤a + k * 8796093022207) ⟨by simp,by simp⟩ (fun k x b hk ⟨ha,hb⟩ => by
   obtain ⟨q1,q2⟩:=Z7a hk
   have hx:=lenO x (Y7 hk)
   have hkl:k < f.Odd.length:=by omega
   have h0:0≤b:=by rw [ha,h2];omega
   unfold Z0A.s1;simp only;rw [ZK q2,cond_true,q1,Z9 (x:=(k:Int) + 1) (by omega)]
   simp only [Y0];rw [Z9 (x:=b + (x.Ticks.length:Int)) (by omega)]
   refine ⟨rfl,?_,by push_cast;omega⟩
   rw [sum_take _ hkl];rw [Y2 hkl] at hk;cases hk;rw [ha];push_cast;omega) (fun a _ => by unfold Z0A.s1;simp only;rw [ZJ (by omega)];rfl)
 rw [YO] at h5
 unfold Z0A
 rw [h1]
 simp only [Y0,id]
 rw [h4]
 simp only [Y0,id,h5,h2,sizeF]
 push_cast;rfl
structure RightF (f:Form):Prop where
 shape:Shape f
 turns:Turns f
 beside:∀ g ∈ f.Odd,Beside f g.Index
def LongF (f:Form):Prop:=6000 < f.Core.length∨6000 < f.Odd.length∨60000 < sizeF f
theorem gran_Right_eq {f:Form} (hl:Lim f):(LongF f∧Zz f = some 3)∨(¬ LongF f∧RightF f∧Zz f = some 0)∨(¬ LongF f∧¬ RightF f∧Zz f = some 50):=by
 have holen:=Z1I (b:=31) hl.odd
 unfold Zz
 by_cases h1:6000 < f.Core.length∨6000 < f.Odd.length
 ·have e:(decide ((f.Core.length:Int) > 6000) || decide ((f.Odd.length:Int) > 6000)) = true:=by
   rcases h1 with h | h
   ·rw [ZK (show (f.Core.length:Int) > 6000 by omega)];rfl
   ·rw [ZK (show (f.Odd.length:Int) > 6000 by omega)];simp
  rw [e];exact .inl ⟨h1.elim .inl (fun h => .inr (.inl h)),rfl⟩
 ·have e:(decide ((f.Core.length:Int) > 6000) || decide ((f.Odd.length:Int) > 6000)) = false:=by
   rw [ZJ (show ¬ (f.Core.length:Int) > 6000 by omega),ZJ (show ¬ (f.Odd.length:Int) > 6000 by omega)];rfl
  rw [e,cond_false,ZA4 hl (by omega) (by omega)]
  simp only [Y0]
  by_cases h2:60000 < sizeF f
  ·rw [ZK (show (sizeF f:Int) > 60000 by omega)]
   exact .inl ⟨.inr (.inr h2),rfl⟩
  ·have hnl:¬ LongF f:=by unfold LongF;omega
   rw [ZJ (show ¬ (sizeF f:Int) > 60000 by omega),cond_false]
   obtain ⟨b,hb,hbs⟩:=gran_shape_eq hl
   rw [hb];simp only [Y0];refine .inr ?_;cases b with
   | false => exact .inr ⟨hnl,fun h => (by have:=hbs.2 h.shape;cases this),rfl⟩
   | true =>
    have hs:=hbs.1 rfl
    obtain ⟨c,hc,hct⟩:=gran_turns_eq hl hs
    rw [hc];simp only [Y0,YH,cond_false];cases c with
    | false => exact .inr ⟨hnl,fun h => (by have:=hct.2 h.turns;cases this),rfl⟩
    | true =>
     simp only [YH,cond_false]
     rcases Z2x (l:=f.Odd) (step:=Zz.s0 f) (fun _ g => Beside f g.Index) (no:=.ret 50) (yes:=.go ()) (fun k g hk _ => by
       obtain ⟨q1,q2⟩:=Z7a hk
       obtain ⟨b,hb,hbb⟩:=ZBd hl hs (hs.odd g (Y7 hk)).2
       unfold Zz.s0;rw [ZK q2,cond_true,q1,Z9 (by omega)]
       simp only [Y0,hb];cases b
       ·exact .inr ⟨rfl,fun h => by have:=hbb.2 h;cases this⟩
       ·exact .inl ⟨rfl,hbb.1 rfl⟩) (by unfold Zz.s0;rw [ZJ (by omega)];rfl) with ⟨q1,q2⟩ | ⟨q1,q2⟩
     ·rw [q1];exact .inl ⟨hnl,⟨hs,hct.1 rfl,fun g hg => by obtain ⟨k,hk⟩:=YB hg;exact q2 k g hk⟩,rfl⟩
     ·rw [q1];exact .inr ⟨hnl,fun h => q2 fun k g hk => h.beside g (Y7 hk),rfl⟩
def ZAa (f:Form):Prop:=f.Core.length≤12∧f.Odd.length≤8∧sizeF f≤60
theorem Z8Q {f:Form} (hl:Lim f):∃ b,Z0d f = some b∧(b = true ↔ ZAa f):=by
 unfold Z0d
 by_cases h:f.Core.length≤12∧f.Odd.length≤8
 ·rw [ZK (show (f.Core.length:Int)≤12 by omega),ZK (show (f.Odd.length:Int)≤8 by omega),ZA4 hl (by omega) (by omega)]
  refine ⟨decide ((sizeF f:Int)≤60),rfl,?_⟩;rw [decide_eq_true_iff];exact ⟨fun h' => ⟨h.1,h.2,by omega⟩,fun h' => by have:=h'.2.2;omega⟩
 ·have e:(decide ((f.Core.length:Int)≤12) && decide ((f.Odd.length:Int)≤8)) = false:=by
   by_cases h1:f.Core.length≤12
   ·rw [ZJ (show ¬ (f.Odd.length:Int)≤8 by omega)];simp
   ·rw [ZJ (show ¬ (f.Core.length:Int)≤12 by omega)];rfl
  rw [e];exact ⟨false,rfl,fun h => (by cases h),fun h' => absurd ⟨h'.1,h'.2.1⟩ h⟩
end Go.Dn

namespace Go.Dn
open Go
theorem Z3R {f:Form} {l:List Span}:l ∈ full f ↔ l ∈ f.Core∧l ≠ []:=by
 unfold full
 rw [List.mem_filter,decide_eq_true_iff,gt_iff_lt,List.length_pos_iff]
theorem full_pair {f:Form} (hs:Shape f) (ht:Turns f):(full f).Pairwise (fun a b => lstT a < fstT b):=by
 have hm:∀ x ∈ full f,fstT x≤lstT x:=fun x hx => Z13 (hs.core x (Z3R.1 hx).1) (Z3R.1 hx).2
 have h1:=ht.1
 generalize full f = l at hm h1
 induction l with
 | nil => exact .nil
 | cons x l ih =>
  have ih:=ih (fun y hy => hm y (YR _ hy)) (fun k a b ha hb => h1 (k + 1) a b ha hb)
  refine List.pairwise_cons.2 ⟨fun y hy => ?_,ih⟩
  cases l with
  | nil => cases hy
  | cons z l =>
   have hxz:=h1 0 x z rfl rfl
   rcases List.mem_cons.1 hy with rfl | hy
   ·exact hxz
   ·have:=(List.pairwise_cons.1 ih).1 y hy
    have:=hm z (by simp)
    omega
theorem core_pair {f:Form} (hs:Shape f) (ht:Turns f) {j k:Nat} {a b:List Span} (hjk:j < k) (ha:f.Core[j]? = some a) (hb:f.Core[k]? = some b) (na:a ≠ []) (nb:b ≠ []):lstT a < fstT b:=by
 have h:=full_pair hs ht
 unfold full at h
 rw [List.pairwise_filter] at h
 have hj:=(List.getElem?_eq_some_iff.1 ha)
 have hk:=(List.getElem?_eq_some_iff.1 hb)
 obtain ⟨hj,rfl⟩:=hj
 obtain ⟨hk,rfl⟩:=hk
 exact List.pairwise_iff_getElem.1 h j k hj hk hjk (by rw [decide_eq_true_iff];exact List.length_pos_iff.2 na) (by rw [decide_eq_true_iff];exact List.length_pos_iff.2 nb)
theorem core_turn {f:Form} (hs:Shape f) (ht:Turns f) {a b:List Span} (ha:a ∈ f.Core) (hb:b ∈ f.Core) (na:a ≠ []) (nb:b ≠ []):lstT a < fstT b + f.Period:=by
 have hA:=Z3R.2 ⟨ha,na⟩
 have hB:=Z3R.2 ⟨hb,nb⟩
 have hm:∀ x ∈ full f,fstT x≤lstT x:=fun x hx => Z13 (hs.core x (Z3R.1 hx).1) (Z3R.1 hx).2
 have hn:full f ≠ []:=Y06 hA
 have hlast:=Y02 hn
 have hhead:=Y07 hn
 have h2:=ht.2 _ _ hlast hhead
 have hp:=full_pair hs ht
 have e1:lstT a≤lstT ((full f).getLast hn):=by
  obtain ⟨j,hj⟩:=YB hA
  obtain ⟨hjl,hj⟩:=List.getElem?_eq_some_iff.1 hj
  by_cases hc:j = (full f).length - 1
  ·subst hc;rw [List.getLast_eq_getElem,hj];exact Yy _
  ·have:=List.pairwise_iff_getElem.1 hp j ((full f).length - 1) hjl (by omega) (by omega)
   rw [hj] at this;have h5:=hm _ (List.getLast_mem hn)
   rw [List.getLast_eq_getElem] at h5 ⊢;omega
 have e2:fstT ((full f).head hn)≤fstT b:=by
  obtain ⟨j,hj⟩:=YB hB
  obtain ⟨hjl,hj⟩:=List.getElem?_eq_some_iff.1 hj
  have hh:(full f).head hn = (full f)[0]'(by omega):=List.head_eq_getElem hn
  by_cases hc:j = 0
  ·subst hc;rw [hh,hj];exact Yy _
  ·have:=List.pairwise_iff_getElem.1 hp 0 j (by omega) hjl (by omega)
   rw [hj,← hh] at this;have h5:=hm _ (List.head_mem hn)
   omega
 omega
theorem ZCf {f:Form} (hs:Shape f) (h0:f.Count ≠ 0) (i:Int):f.Core[(i % f.Count).toNat]? = some (Z0e f i):=by
 have:=(Z0t hs h0 i).1
 unfold at? at this
 rwa [if_pos (Ye i h0)] at this
theorem ZCb {f:Form} (hs:Shape f) (ht:Turns f) (h0:f.Count ≠ 0) {i k:Int} (hik:i < k) (ni:Z0e f i ≠ []) (nk:Z0e f k ≠ []):lstT (Z0e f i) + Z4l f i < fstT (Z0e f k) + Z4l f k:=by
 have hp:=Z9h hs h0
 have di:=Yj i f.Count
 have dk:=Yj k f.Count
 have mi:=Ye i h0
 have mk:=Ye k h0
 have li:=Yl i hp
 have lk:=Yl k hp
 have hq:i / f.Count≤k / f.Count:=Int.ediv_le_ediv hp (by omega)
 unfold Z4l
 rcases Int.lt_or_eq_of_le hq with h | h
 ·have h1:=core_turn hs ht (Z0t hs h0 i).2 (Z0t hs h0 k).2 ni nk
  have h2:(i / f.Count + 1) * f.Period≤k / f.Count * f.Period:=YE (by omega) hs.per.1
  rw [Y0i,Y0z] at h2;omega
 ·rw [h] at di ⊢;have:i % f.Count < k % f.Count:=by omega
  have h1:=core_pair hs ht (j:=(i % f.Count).toNat) (k:=(k % f.Count).toNat) (by omega) (ZCf hs h0 i) (ZCf hs h0 k) ni nk
  omega
theorem ZZ {l:List Span} (d:Int) (hn:l ≠ []):lstT (l.map (ZR d)) = lstT l + d∧fstT (l.map (ZR d)) = fstT l + d:=by
 unfold lstT fstT
 rw [List.getLast?_map,List.head?_map,Y02 hn,Y07 hn]
 exact ⟨rfl,rfl⟩
theorem under_some {f:Form} (hl:Lim f) (hs:Shape f) {i k:Int} (hk:In64 k) (hik:i < k) (ti:ZF i) (ni:Z1 f i ≠ []):∃ j,Under f k (j,true)∧i≤j:=by
 obtain ⟨r,_,h⟩:=Z5V hl hs hk
 obtain ⟨j,b⟩:=r
 have h':=h
 rcases h with ⟨rfl,h1,h2,h3,h4⟩ | ⟨rfl,_,h4⟩
 ·refine ⟨j,h',?_⟩;apply Classical.byContradiction;intro hc;exact ni (h4 i hik (by simp only;omega) ti)
 ·exact absurd (h4 i hik ti) ni
theorem above_some {f:Form} (hl:Lim f) (hs:Shape f) {i k:Int} (hk:In64 k) (hik:k < i) (ti:ZF i) (ni:Z1 f i ≠ []):∃ j,Above f k (j,true)∧j≤i:=by
 obtain ⟨r,_,h⟩:=Z5f hl hs hk
 obtain ⟨j,b⟩:=r
 have h':=h
 rcases h with ⟨rfl,h1,h2,h3,h4⟩ | ⟨rfl,_,h4⟩
 ·refine ⟨j,h',?_⟩;apply Classical.byContradiction;intro hc;exact ni (h4 i hik (by simp only;omega) ti)
 ·exact absurd (h4 i hik ti) ni
theorem RightF.order {f:Form} (hl:Lim f) (hr:RightF f):∀ (n:Nat) (i k:Int),(k - i).toNat = n→i < k→ZF i→ZF k→fits f i→fits f k→Z1 f i ≠ []→Z1 f k ≠ []→lstT (Z1 f i) < fstT (Z1 f k):=by
 have hs:=hr.shape
 intro n
 induction n using Nat.strongRecOn with
 | _ n ih =>
  intro i k hn hik ti tk fi fk ni nk
  by_cases ok:ZT f k
  ·obtain ⟨g,hg,rfl⟩:=ok
   obtain ⟨j,hj,hij⟩:=under_some hl hs (Z3M tk) hik ti ni
   obtain ⟨hi',_,hab⟩:=Z5f hl hs (Z3M tk)
   obtain ⟨_,hlo,_,_⟩:=hr.beside g hg _ _ hj hab
   obtain ⟨fj,aj⟩:=hlo rfl
   have hj2:=hj
   rcases hj2 with ⟨_,j1,j2,j3,j4⟩ | ⟨h,_⟩
   ·simp only at fj aj j1 j2 j3;have hjk:=(ZC2 j3 nk).1 aj
    by_cases hji:i = j
    ·rw [hji];exact hjk
    ·have h1:=ih (j - i).toNat (by omega) i j rfl (by omega) ti j2 fi fj ni j3
     have h2:=Z13 (Z4d hs fj) j3
     omega
   ·cases h
  ·by_cases oi:ZT f i
   ·obtain ⟨g,hg,rfl⟩:=oi
    obtain ⟨j,hj,hij⟩:=above_some hl hs (Z3M ti) hik tk nk
    obtain ⟨lo',_,hun⟩:=Z5V hl hs (Z3M ti)
    obtain ⟨_,_,hhi,_⟩:=hr.beside g hg _ _ hun hj
    obtain ⟨fj,aj⟩:=hhi rfl
    have hj2:=hj
    rcases hj2 with ⟨_,j1,j2,j3,j4⟩ | ⟨h,_⟩
    ·simp only at fj aj j1 j2 j3;have hjk:=(ZC2 ni j3).1 aj
     by_cases hji:j = k
     ·rw [← hji];exact hjk
     ·have h1:=ih (k - j).toNat (by omega) j k rfl (by omega) j2 tk fj fk j3 nk
      have h2:=Z13 (Z4d hs fj) j3
      omega
    ·cases h
   ·have h0:f.Count ≠ 0:=fun h => ni (Z0g oi h)
    have ni':=fun h => ni ((Z2K oi h0).2 h)
    have nk':=fun h => nk ((Z2K ok h0).2 h)
    rw [Z2C oi h0,Z2C ok h0,(ZZ _ ni').1,(ZZ _ nk').2];exact ZCb hs hr.turns h0 hik ni' nk'
end Go.Dn

namespace Go.Dn
open Go
theorem Above.tick {f:Form} {i:Int} {r:Int × Bool} (h:Above f i r) (hr:r.2 = true):i < r.1∧ZF r.1∧Z1 f r.1 ≠ []∧∀ k,i < k→k < r.1→ZF k→Z1 f k = []:=by
 rcases h with ⟨_,h1,h2,h3,h4⟩ | ⟨h,_⟩
 ·exact ⟨h1,h2,h3,h4⟩
 ·rw [hr] at h;cases h
theorem Under.tick {f:Form} {i:Int} {r:Int × Bool} (h:Under f i r) (hr:r.2 = true):r.1 < i∧ZF r.1∧Z1 f r.1 ≠ []∧∀ k,k < i→r.1 < k→ZF k→Z1 f k = []:=by
 rcases h with ⟨_,h1,h2,h3,h4⟩ | ⟨h,_⟩
 ·exact ⟨h1,h2,h3,h4⟩
 ·rw [hr] at h;cases h
end Go.Dn

namespace Go.Dn
open Go
theorem Z9b {α β:Type} {a:List α} {b:List β} {step:Int→Option (Int ⊕ Jx Unit Bool)} {eq:α→β→Option Bool} (P:α→β→Prop)
  (hl:(a.length:Int) < 9223372036854775807) (hab:a.length = b.length)
  (heq:∀ (k:Nat) x y,a[k]? = some x→b[k]? = some y→∃ r,eq x y = some r∧(r = true ↔ P x y))
  (hstep:∀ s,step s = bif decide (s < (a.length:Int)) then (at? a s).bind fun x1 => (at? b s).bind fun x2 => (eq x1 x2).bind fun x3 => bif (!x3) then some (.inr (.ret false)) else some (.inl (w64 (s + 1))) else some (.inr (.go ()))) :
  (loopO step 0 = some (.go ())∧∀ (k:Nat) x y,a[k]? = some x→b[k]? = some y→P x y)∨(loopO step 0 = some (.ret false)∧¬ ∀ (k:Nat) x y,a[k]? = some x→b[k]? = some y→P x y):=by
 rcases Z2x (l:=a) (step:=step) (fun k x => ∀ y,b[k]? = some y→P x y) (no:=.ret false) (yes:=.go ()) (fun k x hk hp => by
  have hlt:=(List.getElem?_eq_some_iff.1 hk).1
  have hat:at? a (k:Int) = some x:=by rw [at?_nat hlt];rw [Y2 hlt] at hk;exact hk
  have hbt:at? b (k:Int) = some (b[k]'(by omega)):=at?_nat (by omega)
  have hbk:b[k]? = some (b[k]'(by omega)):=Y2 (by omega)
  obtain ⟨r,h1,h2⟩:=heq k x _ hk hbk
  rw [hstep,ZK (show (k:Int) < a.length by omega),cond_true,hat,hbt,Z9 (show _ by omega)]
  simp only [Y0,h1];cases r with
  | true => exact .inl ⟨rfl,fun y hy => by rw [hbk] at hy;cases hy;exact h2.1 rfl⟩
  | false => exact .inr ⟨rfl,fun h => by have:=h2.2 (h _ hbk);cases this⟩) (by
  rw [hstep,ZJ (by omega)];rfl) with ⟨h1,h2⟩ | ⟨h1,h2⟩
 ·exact .inl ⟨h1,fun k x y hx hy => h2 k x hx y hy⟩
 ·exact .inr ⟨h1,fun h => h2 fun k x hx y hy => h k x y hx hy⟩
theorem ZBL {a b:List Span} {d:Int} (hl:a.length = b.length):(∀ (k:Nat) x y,a[k]? = some x→b[k]? = some y→y.From - x.From = d∧y.To - x.To = d) ↔ b = a.map (ZR d):=by
 constructor
 ·intro h;apply Y0e;intro k
  by_cases hk:k < a.length
  ·have h1:a[k]? = some a[k]:=Y2 hk
   have h2:b[k]? = some (b[k]'(by omega)):=Y2 (by omega)
   rw [h2,YP,h1];obtain ⟨q1,q2⟩:=h k _ _ h1 h2
   simp only [YA,ZR,Y5];generalize b[k]'(by omega) = y at q1 q2 ⊢
   obtain ⟨y1,y2⟩:=y
   simp only at q1 q2;simp only [Span.mk.injEq];omega
  ·rw [Yi (by omega),Yi (by simp;omega)]
 ·rintro rfl k x y hx hy;rw [YP,hx] at hy;simp only [YA,Y5] at hy;subst hy;simp only [ZR];omega
theorem ZB2 {a b:List Span} {d:Int} (ha:RightL a) (hb:RightL b) (hl:Len a):∃ r,Z2E a b d = some r∧(r = true ↔ b = a.map (ZR d)):=by
 have hl':(a.length:Int) < 9223372036854775807:=by have:=Z1D;unfold Len at hl;omega
 unfold Z2E ZD
 by_cases hlen:a.length = b.length
 ·rw [Z8l (by omega),cond_false]
  have tk:∀ {l:List Span},RightL l→∀ (k:Nat) s,l[k]? = some s→ZF s.From∧ZF s.To:=fun {l} h k s hs => by
   have:=Z7F.1 h k s hs
   unfold Z4k at this;exact ⟨this.1,this.2.1⟩
  rcases Z9b (a:=a) (b:=b) (step:=ZD.s0 a b (fun z0 z1 => some (Z1d z0 z1 d))) (eq:=fun z0 z1 => some (Z1d z0 z1 d)) (fun x y => y.From - x.From = d∧y.To - x.To = d) hl' hlen (fun k x y hx hy => by
   refine ⟨_,rfl,?_⟩;obtain ⟨x1,x2⟩:=tk ha k x hx
   obtain ⟨y1,y2⟩:=tk hb k y hy
   unfold ZF at x1 x2 y1 y2;unfold Z1d;rw [Z9 (by omega),Z9 (by omega)]
   simp) (fun s => rfl) with ⟨h1,h2⟩ | ⟨h1,h2⟩
  ·rw [h1];exact ⟨true,rfl,⟨fun _ => (ZBL hlen).1 h2,fun _ => rfl⟩⟩
  ·rw [h1];refine ⟨false,rfl,by simp only [Y6,false_iff];exact fun h => h2 ((ZBL hlen).2 h)⟩
 ·rw [bne_t (by omega),cond_true]
  refine ⟨false,rfl,by simp only [Y6,false_iff];rintro rfl;exact hlen (by simp)⟩
end Go.Dn

namespace Go.Dn
open Go
noncomputable def cs (f:Form) (i:Int):List Span:=(Z0e f i).map (ZR (Z4l f i))
theorem Z1k (l:List Span) (a b:Int):(l.map (ZR a)).map (ZR b) = l.map (ZR (a + b)):=by
 rw [List.map_map]
 congr 1
 funext s
 simp only [Function.comp,ZR,Span.mk.injEq]
 omega
theorem shift_inj {a b:List Span} {d:Int} (h:a.map (ZR d) = b.map (ZR d)):a = b:=by
 have:=congrArg (List.map (ZR (-d))) h
 rw [Z1k,Z1k,Int.add_right_neg,Z73,Z73] at this
 exact this
theorem Z6P {f:Form} (h0:f.Count ≠ 0) (i:Int):cs f (i + f.Count) = (cs f i).map (ZR f.Period):=by
 unfold cs Z0e Z4l
 rw [Z1k,Int.add_emod_right,Int.add_ediv_of_dvd_right (Int.dvd_refl _),Int.ediv_self h0,Y0i,Y0z]
theorem Z7N {f:Form} (h0:f.Count ≠ 0) (i k:Int):cs f (i + f.Count * k) = (cs f i).map (ZR (k * f.Period)):=by
 unfold cs Z0e Z4l
 rw [Z1k,Int.add_mul_emod_self_left,Int.add_mul_ediv_left _ _ h0,Y0i]
theorem Z2L {f:Form} {i:Int} (h0:0≤i) (h1:i < f.Count):cs f i = f.Core.getD i.toNat []:=by
 unfold cs Z0e Z4l
 rw [Int.emod_eq_of_lt h0 h1,Int.ediv_eq_zero_of_lt h0 h1,Int.zero_mul,Z73]
def TurnZ (f:Form) (d q:Int):Prop:=∀ i,cs f (i + d) = (cs f i).map (ZR q)
theorem turn_of {f:Form} (h0:0 < f.Count) {d q:Int} (h:∀ i,0≤i→i < f.Count→cs f (i + d) = (cs f i).map (ZR q)):TurnZ f d q:=by
 intro i
 have e:i = i % f.Count + f.Count * (i / f.Count):=(Yj i f.Count).symm
 have h1:=h (i % f.Count) (Ye i (by omega)) (Yl i h0)
 have e2:i + d = (i % f.Count + d) + f.Count * (i / f.Count):=by omega
 rw [e2,Z7N (by omega),h1]
 conv => rhs;rw [e,Z7N (by omega)]
 rw [Z1k,Z1k,Int.add_comm]
def Z6g (f:Form) (d k:Int):Int:=if k + d ≥ f.Count then k + d - f.Count else k + d
def Z7o (f:Form) (d k:Int):Int:=if k + d ≥ f.Count then f.Period else 0
theorem wrap_cs {f:Form} {d k:Int} (hd:1≤d) (hdn:d≤f.Count) (h0:0≤k) (h1:k < f.Count):0≤Z6g f d k∧Z6g f d k < f.Count∧cs f (k + d) = (cs f (Z6g f d k)).map (ZR (Z7o f d k)):=by
 unfold Z6g Z7o
 by_cases h:k + d ≥ f.Count
 ·rw [if_pos h,if_pos h];refine ⟨by omega,by omega,?_⟩
  rw [← Z6P (by omega)]
  congr 1;omega
 ·rw [if_neg h,if_neg h,Z73];exact ⟨by omega,by omega,rfl⟩
theorem canon_turn_eq {f:Form} (hl:Lim f) (hs:Shape f) {d q:Int} (hd:1≤d) (hdn:d≤f.Count) (hq:0≤q∧q≤1099511627776):∃ r,Z0u f d q = some r∧(r = true ↔ TurnZ f d q):=by
 have hcl:(f.Core.length:Int) < 4611686018427387904:=Z1I (b:=23) hl.core
 have hcnt:=hs.count
 have key:∀ k:Int,0≤k→k < f.Count→(cs f (Z6g f d k) = (cs f k).map (ZR (q - Z7o f d k)) ↔ cs f (k + d) = (cs f k).map (ZR q)):=fun k k0 k1 => by
  obtain ⟨_,_,h⟩:=wrap_cs hd hdn k0 k1
  rw [h]
  constructor
  ·intro e;rw [e,Z1k]
   congr 2;omega
  ·intro e;apply shift_inj (d:=Z7o f d k)
   rw [e,Z1k]
   congr 2;omega
 unfold Z0u
 rcases Z2x (l:=f.Core) (step:=Z0u.s0 f d q) (fun k x => cs f (Z6g f d k) = x.map (ZR (q - Z7o f d k))) (no:=.ret false) (yes:=.go ()) (fun k x hk hp => by
  have hlt:=(List.getElem?_eq_some_iff.1 hk).1
  have hat:at? f.Core (k:Int) = some x:=by rw [at?_nat hlt];rw [Y2 hlt] at hk;exact hk
  obtain ⟨w0,w1,_⟩:=wrap_cs (f:=f) (k:=(k:Int)) hd hdn (by omega) (by omega)
  have hx:=hs.core x (Y7 hk)
  have hlx:=(hl.sets x (Y7 hk)).1
  have hwl:(Z6g f d k).toNat < f.Core.length:=by omega
  have hgw:cs f (Z6g f d k) = f.Core[(Z6g f d k).toNat]:=by rw [Z2L w0 w1,YI,Y2 hwl];rfl
  have hy:=hs.core _ (YF hwl)
  have hat2:at? f.Core (Z6g f d k) = some f.Core[(Z6g f d k).toNat]:=at?_lt w0 (by omega)
  have hpk:(bif decide (w64 ((k:Int) + d) ≥ f.Count) then some (w64 (w64 ((k:Int) + d) - f.Count),f.Period) else some (w64 ((k:Int) + d),0)) = some (Z6g f d k,Z7o f d k):=by
   rw [Z9 (show _ by omega)]
   unfold Z6g Z7o
   by_cases h:(k:Int) + d ≥ f.Count
   ·rw [ZK h,cond_true,if_pos h,if_pos h,Z9 (show _ by omega)]
   ·rw [ZJ h,cond_false,if_neg h,if_neg h]
  obtain ⟨r,h1,h2⟩:=ZB2 (d:=q - Z7o f d k) hx hy hlx
  have hwp:0≤Z7o f d k∧Z7o f d k≤1099511627776:=by have:=hs.per;unfold Z7o;split <;> omega
  unfold Z0u.s0;rw [ZK (show (k:Int) < f.Core.length by omega),cond_true,hat]
  simp only [Y0,hpk,hat2];rw [Z9 (show _ by omega),h1]
  simp only [Y0];rw [hgw];cases r with
  | true => exact .inl ⟨by simp only [YH,cond_false,Y0,Jx.elim];rw [Z9 (show _ by omega)],h2.1 rfl⟩
  | false => exact .inr ⟨rfl,fun h => by have:=h2.2 h;cases this⟩) (by
  unfold Z0u.s0;rw [ZJ (by omega)];rfl) with ⟨h1,h2⟩ | ⟨h1,h2⟩
 ·rw [h1];refine ⟨true,rfl,⟨fun _ => turn_of (by omega) fun i i0 i1 => ?_,fun _ => rfl⟩⟩
  have hlt:i.toNat < f.Core.length:=by omega
  have:=h2 i.toNat _ (Y2 hlt)
  rw [Y0S i0] at this;refine (key i i0 i1).1 ?_;rw [this,Z2L i0 i1,YI,Y2 hlt];rfl
 ·rw [h1];refine ⟨false,rfl,⟨(fun h => nomatch h),fun ht => absurd (fun k x hk => ?_) h2⟩⟩
  have hlt:=(List.getElem?_eq_some_iff.1 hk).1
  have:=(key k (by omega) (by omega)).2 (ht k)
  rw [this,Z2L (by omega) (by omega),YI,Yo,hk];rfl
end Go.Dn

namespace Go.Dn
open Go
structure Good (f:Form) (d:Int):Prop where
 pos:1≤d
 dvd:d ∣ f.Count
 rest:f.Period % (f.Count / d) = 0
 turn:TurnZ f d (f.Period / (f.Count / d))
theorem good_self {f:Form} (h0:0 < f.Count):Good f f.Count:=by
 have e:f.Count / f.Count = 1:=Int.ediv_self (by omega)
 exact ⟨by omega,Int.dvd_refl _,by rw [e];omega,by rw [e,Int.ediv_one];exact Z6P (by omega)⟩
theorem copy_loop {x4:List (List Span)} (hc:x4.length * 24≤reachBytes) (hs:∀ l ∈ x4,Len l):loopO (Zp.s1 x4) (0,[]) = some x4:=by
 have hcl:(x4.length:Int) < 4611686018427387904:=Z1I (b:=23) hc
 have hr:=Z1D
 have hro:=Z3a
 refine Z1L (I:=fun s r => r = x4∧∃ k:Nat,k≤x4.length∧s = ((k:Int),x4.take k)) (fun s => x4.length - s.1.toNat) ?_ ⟨rfl,0,YN _,rfl⟩
 rintro s r ⟨rfl,k,hk,rfl⟩
 unfold Zp.s1
 by_cases hlt:k < r.length
 ·left
  have hl:=hs _ (YF hlt)
  unfold Len at hl;have hcp:clone? 16 r[k] = some r[k]:=by unfold clone?;rw [if_pos (by omega)]
  have hap:app? 24 (r.take k) [r[k]] = some (r.take (k + 1)):=by
   rw [app?_ok (by simp only [YT,Yg,Yd];have:min k r.length + 1≤r.length:=(by omega);have:=YQ 24 this;omega)]
   rw [Yf hlt]
  refine ⟨((k:Int) + 1,r.take (k + 1)),?_,⟨rfl,k + 1,hlt,by push_cast;rfl⟩,by simp;omega⟩
  rw [ZK (show (k:Int) < r.length by omega),cond_true,at?_nat hlt]
  simp only [Y0,hcp,hap];rw [Z9 (show _ by omega)]
 ·right
  have:k = r.length:=by omega
  subst this;rw [ZJ (show ¬ ((r.length:Int) < r.length) by omega),cond_false,YO]
theorem core_b0_eq {f:Form} (hl:Lim f) (hs:Shape f) {d:Int} (hd:1≤d) (hdn:d ∣ f.Count) (h0:0 < f.Count) :
  (Good f d∧Zp.b0 f ([],0,0) d = some ((f.Core.take d.toNat,f.Period / (f.Count / d),d),1))∨(¬ Good f d∧Zp.b0 f ([],0,0) d = some (([],0,0),0)):=by
 have hle:d≤f.Count:=Int.le_of_dvd h0 hdn
 have hcl:(f.Core.length:Int) < 4611686018427387904:=Z1I (b:=23) hl.core
 have hcnt:=hs.count
 have hm:0 < f.Count / d:=Y0k h0 (by omega) hdn
 have hmle:f.Count / d≤f.Count:=Y0J _ (by omega)
 have htd:f.Count.tdiv d = f.Count / d:=Y0l (by omega)
 have hq:0≤f.Period / (f.Count / d)∧f.Period / (f.Count / d)≤1099511627776:=by
  have h1:=hs.per
  have h2:f.Period / (f.Count / d)≤f.Period:=Y0J _ h1.1
  have h3:0≤f.Period / (f.Count / d):=Int.ediv_nonneg h1.1 (by omega)
  omega
 have hfl:Z0P f.Period (w64 (f.Count.tdiv d)) = some (f.Period / (f.Count / d),f.Period % (f.Count / d),0):=by
  rw [htd,Z9 (show _ by omega),Z2D hl.period (by unfold In64;omega),Z3k hm]
 unfold Zp.b0
 rw [nz?_ok (by omega),hfl]
 simp only [Y0]
 by_cases hr:f.Period % (f.Count / d) = 0
 ·rw [Z8l hr,cond_false];obtain ⟨r,h1,h2⟩:=canon_turn_eq hl hs hd hle hq
  rw [h1];cases r with
  | true =>
   left
   refine ⟨⟨hd,hdn,hr,h2.1 rfl⟩,?_⟩;have hcut:cut? f.Core 0 d = some (f.Core.take d.toNat):=by
    unfold cut?;rw [if_pos ⟨by omega,by omega,by omega⟩]
    rfl
   simp only [Y0,YH,cond_false,hcut];have:=copy_loop (x4:=f.Core.take d.toNat) (by have:=hl.core;simp only [YT];have h:=YQ 24 (Nat.min_le_right d.toNat f.Core.length);omega) (fun l hl' => (hl.sets l (Yt hl')).1)
   rw [this]
   rfl
  | false =>
   right
   exact ⟨fun g => (by have:=h2.2 g.turn;cases this),rfl⟩
 ·right
  refine ⟨fun g => hr g.rest,?_⟩
  rw [bne_t hr]
  rfl
theorem least_good {f:Form} (h0:0 < f.Count):∃ d,Good f d∧∀ d',Good f d'→d≤d':=by
 have:∃ n:Nat,Good f n:=⟨f.Count.toNat,by rw [Y0S (by omega)];exact good_self h0⟩
 obtain ⟨n,hn⟩:=this
 induction n using Nat.strongRecOn with
 | _ n ih =>
  by_cases h:∃ m:Nat,m < n∧Good f m
  ·obtain ⟨m,h1,h2⟩:=h
   exact ih m h1 h2
  ·refine ⟨n,hn,fun d' hd' => ?_⟩
   apply Classical.byContradiction;intro hlt;have:=hd'.pos
   exact h ⟨d'.toNat,by omega,by rw [Y0S (by omega)];exact hd'⟩
theorem canon_bare_eq {f:Form} (hl:Lim f):Z3i f = Z38 f:=by
 unfold Z3i Z38
 rfl
theorem canon_core_eq {f:Form} (hl:Lim f) (hs:Shape f):(Bare f∧Zp f = some (Form.mk 0 0 [] [])) ∨
  (¬ Bare f∧0 < f.Count∧∃ d,Good f d∧(∀ d',Good f d'→d≤d')∧Zp f = some (Form.mk (f.Period / (f.Count / d)) d (f.Core.take d.toNat) [])):=by
 have hcl:(f.Core.length:Int) < 4611686018427387904:=Z1I (b:=23) hl.core
 have hcnt:=hs.count
 obtain ⟨b,h1,h2⟩:=Z72 hl
 unfold Zp
 rw [canon_bare_eq hl,h1]
 cases b with
 | true => exact .inl ⟨h2.1 rfl,rfl⟩
 | false =>
  right
  have hnb:¬ Bare f:=fun h => by have:=h2.2 h;cases this
  have h0:0 < f.Count:=by
   rcases Nat.eq_zero_or_pos f.Core.length with h | h
   ·exact absurd (fun l hl' => by rw [List.length_eq_zero_iff.1 h] at hl';cases hl') hnb
   ·omega
  obtain ⟨d,hg,hmin⟩:=least_good h0
  refine ⟨hnb,h0,d,hg,hmin,?_⟩;have hdn:d≤f.Count:=Int.le_of_dvd h0 hg.dvd
  have hd1:=hg.pos
  have hloop:loopO (Zs.s0 f.Count (Z3L (Zp.b0 f))) (1,(([],0,0),0)) = some (.ret ((f.Core.take d.toNat,f.Period / (f.Count / d),d),1)):=by
   refine Z1L (I:=fun s r => r = .ret ((f.Core.take d.toNat,f.Period / (f.Count / d),d),1)∧∃ k:Int,1≤k∧k≤d∧s = (k,(([],0,0),0))) (fun s => (d - s.1).toNat) ?_ ⟨rfl,1,by omega,hd1,rfl⟩
   rintro s r ⟨rfl,k,k1,k2,rfl⟩;unfold Zs.s0;rw [ZK (show k≤f.Count by omega),cond_true,nz?_ok (by omega)]
   simp only [Y0]
   by_cases hkd:k ∣ f.Count
   ·rw [Z84 (show f.Count.tmod k = 0 from Int.tmod_eq_zero_of_dvd hkd),cond_true]
    rcases core_b0_eq hl hs k1 hkd h0 with ⟨g,e⟩ | ⟨g,e⟩
    ·have:k = d:=by have:=hmin k g;omega
     subst this
     right
     simp only [Z3L,if_true,e,YA,Y0]
     rfl
    ·left
     have hne:k ≠ d:=fun h => g (h ▸ hg)
     refine ⟨(k + 1,(([],0,0),0)),?_,⟨trivial,k + 1,by omega,by omega,rfl⟩,by simp;omega⟩
     simp only [Z3L,if_true,e,YA,Y0];rw [Z9 (show _ by omega)]
     rfl
   ·left
    have hne:k ≠ d:=fun h => hkd (h ▸ hg.dvd)
    refine ⟨(k + 1,(([],0,0),0)),?_,⟨trivial,k + 1,by omega,by omega,rfl⟩,by simp;omega⟩
    rw [Z4i (fun h => hkd (Int.dvd_of_tmod_eq_zero h)),cond_false]
    simp only [Y0,cond_false];rw [Z9 (show _ by omega)]
  unfold Zs;rw [hloop]
  rfl
end Go.Dn

namespace Go.Dn
open Go
def Turn (h:Int→List Span) (d q:Int):Prop:=∀ i,h (i + d) = (h i).map (ZR q)
theorem Turn.neg {h:Int→List Span} {d q:Int} (t:Turn h d q):Turn h (-d) (-q):=fun i => by
 have:=t (i + -d)
 rw [show i + -d + d = i by omega] at this
 rw [this,Z1k,Int.add_right_neg,Z73]
theorem Turn.add {h:Int→List Span} {d q d' q':Int} (t:Turn h d q) (t':Turn h d' q'):Turn h (d + d') (q + q'):=fun i => by
 rw [show i + (d + d') = (i + d) + d' by omega,t',t,Z1k]
theorem Turn.zero (h:Int→List Span):Turn h 0 0:=fun i => by rw [Int.add_zero,Z73]
theorem Turn.nat {h:Int→List Span} {d q:Int} (t:Turn h d q):∀ k:Nat,Turn h (k * d) (k * q)
 | 0 => by simpa using Turn.zero h
 | k + 1 => by
  have:=(Turn.nat t k).add t
  push_cast
  rw [Y0i,Y0z,Y0i,Y0z];exact this
theorem Turn.mul {h:Int→List Span} {d q:Int} (t:Turn h d q) (k:Int):Turn h (k * d) (k * q):=by
 rcases Int.natAbs_eq k with e | e
 ·rw [e];exact t.nat _
 ·rw [e,Y0m,Y0m];exact (t.nat _).neg
theorem Turn.agree {h h':Int→List Span} {d q a:Int} (t:Turn h d q) (t':Turn h' d q) (hd:0 < d) (he:∀ i,a≤i→i < a + d→h i = h' i):h = h':=by
 funext i
 have e:i = ((i - a) % d + a) + (i - a) / d * d:=by
  have:=Yj (i - a) d
  rw [Yn] at this;omega
 have h1:=Ye (i - a) (show d ≠ 0 by omega)
 have h2:=Yl (i - a) hd
 rw [e,t.mul,t'.mul,he _ (by omega) (by omega)]
noncomputable def csz (f:Form) (i:Int):List Span:=if f.Count = 0 then [] else cs f i
theorem Z37 {f:Form} (h0:0 < f.Count):csz f = cs f:=by funext i;exact if_neg (by omega)
theorem Z2k {f:Form} {i:Int} (h:¬ ZT f i):Z1 f i = csz f i:=by
 unfold csz
 by_cases h0:f.Count = 0
 ·rw [if_pos h0,Z0g h h0]
 ·rw [if_neg h0,Z2C h h0];rfl
theorem csz_bare {f:Form} (hs:Shape f) (hb:Bare f) (i:Int):csz f i = []:=by
 unfold csz
 by_cases h0:f.Count = 0
 ·rw [if_pos h0]
 ·rw [if_neg h0];unfold cs;rw [hb _ (Z0t hs h0 i).2];rfl
def Z2W (f c:Form):Prop:=(Bare f∧c = Form.mk 0 0 [] [])∨(¬ Bare f∧0 < f.Count∧∃ d,Good f d∧(∀ d',Good f d'→d≤d')∧c = Form.mk (f.Period / (f.Count / d)) d (f.Core.take d.toNat) [])
theorem canon_core_ok {f:Form} (hl:Lim f) (hs:Shape f):∃ c,Zp f = some c∧Z2W f c:=by
 rcases canon_core_eq hl hs with ⟨h1,h2⟩ | ⟨h1,h2,d,h3,h4,h5⟩
 ·exact ⟨_,h2,.inl ⟨h1,rfl⟩⟩
 ·exact ⟨_,h5,.inr ⟨h1,h2,d,h3,h4,rfl⟩⟩
theorem Z2W.odd {f c:Form} (h:Z2W f c):c.Odd = []:=by
 rcases h with ⟨_,rfl⟩ | ⟨_,_,d,_,_,rfl⟩ <;> rfl
theorem Z2W.csz {f c:Form} (hs:Shape f) (h:Z2W f c):csz c = csz f:=by
 rcases h with ⟨hb,rfl⟩ | ⟨hb,h0,d,hg,_,rfl⟩
 ·funext i;rw [csz_bare hs hb];rfl
 ·have hd:=hg.pos
  have hdn:d≤f.Count:=Int.le_of_dvd h0 hg.dvd
  have hcnt:=hs.count
  rw [Z37 h0,Z37 (show 0 < (Form.mk (f.Period / (f.Count / d)) d (f.Core.take d.toNat) []).Count by show 0 < d;omega)]
  refine Turn.agree (a:=0) (d:=d) (q:=f.Period / (f.Count / d)) (Z6P (f:=Form.mk (f.Period / (f.Count / d)) d (f.Core.take d.toNat) []) (show d ≠ 0 by omega)) hg.turn (by omega) (fun i i0 i1 => ?_)
  rw [Z2L i0 (show i < d by omega),Z2L i0 (by omega)]
  show (f.Core.take d.toNat).getD i.toNat [] = _
  rw [YI,YI,List.getElem?_take_of_lt (by omega)]
theorem Z2W.shape {f c:Form} (hs:Shape f) (h:Z2W f c):Shape c:=by
 rcases h with ⟨hb,rfl⟩ | ⟨hb,h0,d,hg,_,rfl⟩
 ·exact ⟨rfl,by simp,by simp,by simp,by simp,fun j k a b _ h => by simp at h⟩
 ·have hd:=hg.pos
  have hdn:d≤f.Count:=Int.le_of_dvd h0 hg.dvd
  have hcnt:=hs.count
  have hm:0 < f.Count / d:=Y0k h0 (by omega) hg.dvd
  have hp:0 < f.Period:=by
   have:=hs.per;have:=hs.zero
   rcases Int.lt_or_le 0 f.Period with h | h
   ·exact h
   ·have:f.Period = 0:=by omega
    have:=hs.zero.2 this
    omega
  have hq:0 < f.Period / (f.Count / d):=Y0k hp (by omega) (Int.dvd_of_emod_eq_zero hg.rest)
  have hq2:f.Period / (f.Count / d)≤f.Period:=Y0J _ (by omega)
  refine ⟨?_,?_,?_,?_,by simp,fun j k a b _ h => by simp at h⟩
  ·simp only [YT];omega
  ·simp only;omega
  ·simp only;have:=hs.per;omega
  ·intro l hl';exact hs.core l (Yt hl')
theorem Z2W.lim {f c:Form} (hl:Lim f) (hs:Shape f) (h:Z2W f c):Lim c:=by
 have hsc:=h.shape hs
 have hn:c.Core.length≤f.Core.length∧∀ l ∈ c.Core,l ∈ f.Core:=by
  rcases h with ⟨hb,rfl⟩ | ⟨hb,h0,d,hg,_,rfl⟩
  ·exact ⟨YN _,fun l hl' => by cases hl'⟩
  ·exact ⟨by simp only [YT];omega,fun l hl' => Yt hl'⟩
 have hc:=hl.core
 have h24:=YQ 24 hn.1
 have hp:=hsc.per
 have hcnt:=hsc.count
 have hcl:(f.Core.length:Int) < 4611686018427387904:=Z1I (b:=23) hl.core
 exact ⟨by omega,fun l hl' => hl.sets l (hn.2 l hl'),by rw [h.odd];simp [Z1D],by rw [h.odd];simp,by unfold In64;omega,by unfold In64;omega⟩
theorem Z2W.Z1 {f c:Form} (hs:Shape f) (h:Z2W f c) (i:Int):Z1 c i = Go.Dn.csz f i:=by
 rw [Z2k (by rintro ⟨g,hg,_⟩;rw [h.odd] at hg;cases hg),h.csz hs]
theorem ZC0 {f c:Form} (hl:Lim f) (hs:Shape f) (h:Z2W f c) {g:Granule} (hg:g ∈ f.Odd):∃ r,Z2z c g = some r∧(r = true ↔ csz f g.Index = g.Ticks):=by
 obtain ⟨hr,ht⟩:=hs.odd g hg
 have hlc:=h.lim hl hs
 have hsc:=h.shape hs
 unfold Z2z
 rw [Z81 hlc hsc (Z3M ht)]
 by_cases hf:fits c g.Index
 ·rw [if_pos ⟨ht,hf⟩];obtain ⟨r,h1,h2⟩:=spans_Same_eq (a:=Go.Dn.Z1 c g.Index) (b:=g.Ticks) (ZAV hlc hsc _)
  refine ⟨r,?_,?_⟩
  ·simp only [Y0];rw [Z84 rfl,cond_true,h1];rfl
  ·rw [h2,h.Z1 hs]
 ·rw [if_neg (fun h' => hf h'.2)]
  refine ⟨false,rfl,⟨(fun h' => nomatch h'),fun e => absurd (fun s hs' => ?_) hf⟩⟩
  rw [h.Z1 hs,e] at hs';obtain ⟨k,hk⟩:=YB hs'
  have:=Z7F.1 hr k s hk
  exact ⟨this.1,this.2.1⟩
open Classical in
noncomputable def oddly (f:Form) (g:Granule):Bool:=decide (¬ csz f g.Index = g.Ticks)
noncomputable def Z6I (f c:Form):Form:=Form.mk c.Period c.Count c.Core (f.Odd.filter (oddly f))
theorem Z8c {f:Form} (hl:Lim f) (hs:Shape f):∃ c,Z2W f c∧Zi f = some (Z6I f c):=by
 obtain ⟨c,h1,hc⟩:=canon_core_ok hl hs
 refine ⟨c,hc,?_⟩
 unfold Zi
 rw [h1]
 simp only [Y0]
 have hol:(f.Odd.length:Int) < 4611686018427387904:=Z1I (b:=31) hl.odd
 have hr:=Z1D
 have hro:=Z3a
 have:loopO (Zi.s0 f c) (0,[]) = some (f.Odd.filter (oddly f)):=by
  refine Z1L (I:=fun s r => r = f.Odd.filter (oddly f)∧∃ k:Nat,k≤f.Odd.length∧s = ((k:Int),(f.Odd.take k).filter (oddly f))) (fun s => f.Odd.length - s.1.toNat) ?_ ⟨rfl,0,YN _,rfl⟩
  rintro s r ⟨rfl,k,hk,rfl⟩;unfold Zi.s0
  by_cases hlt:k < f.Odd.length
  ·left
   have hmem:=YF hlt
   obtain ⟨r,p1,p2⟩:=ZC0 hl hs hc hmem
   have htk:f.Odd.take (k + 1) = f.Odd.take k ++ [f.Odd[k]]:=(Yf hlt).symm
   have hlen:=(hl.ticks _ hmem).2.1
   unfold Len at hlen;refine ⟨((k:Int) + 1,(f.Odd.take (k + 1)).filter (oddly f)),?_,⟨rfl,k + 1,hlt,by push_cast;rfl⟩,by simp;omega⟩
   rw [ZK (show (k:Int) < f.Odd.length by omega),cond_true,at?_nat hlt]
   simp only [Y0,p1];rw [Z9 (show _ by omega),htk,List.filter_append]
   cases r with
   | true =>
    have:oddly f f.Odd[k] = false:=by unfold oddly;rw [decide_eq_false_iff_not];exact fun h => h (p2.1 rfl)
    simp only [YH,cond_false,Y0,List.filter_cons,this,Y6,if_false,List.filter_nil,YV]
   | false =>
    have:oddly f f.Odd[k] = true:=by unfold oddly;rw [decide_eq_true_iff];exact fun h => by have:=p2.2 h;cases this
    have hcp:clone? 16 f.Odd[k].Ticks = some f.Odd[k].Ticks:=by unfold clone?;rw [if_pos (by omega)]
    have hfl:((f.Odd.take k).filter (oddly f)).length≤k:=by
     have:=Y0G (oddly f) (f.Odd.take k)
     simp only [YT] at this;omega
    have hap:app? 32 ((f.Odd.take k).filter (oddly f)) [Granule.mk f.Odd[k].Index f.Odd[k].Ticks] = some ((f.Odd.take k).filter (oddly f) ++ [f.Odd[k]]):=by
     rw [app?_ok (by simp only [Yg,Yd];have h3:=hl.odd;have:=YQ 32 (show ((f.Odd.take k).filter (oddly f)).length + 1≤f.Odd.length by omega);omega)]
    simp only [Yz,cond_true,Y0,hcp,hap,List.filter_cons,this,if_true,List.filter_nil]
  ·right
   have:k = f.Odd.length:=by omega
   subst this;rw [ZJ (show ¬ ((f.Odd.length:Int) < f.Odd.length) by omega),cond_false,YO]
 rw [this]
 rfl
end Go.Dn

namespace Go.Dn
open Go
theorem ext_of {α:Type} {a b:List α} (hl:a.length = b.length) (h:∀ (k:Nat) x y,a[k]? = some x→b[k]? = some y→x = y):a = b:=by
 apply List.ext_getElem hl
 intro k h1 h2
 exact h k _ _ (Y2 h1) (Y2 h2)
theorem granule_ext {x y:Granule}:x = y ↔ x.Index = y.Index∧x.Ticks = y.Ticks:=by
 obtain ⟨a,b⟩:=x
 obtain ⟨c,d⟩:=y
 simp
theorem form_ext {a b:Form}:a = b ↔ a.Period = b.Period∧a.Count = b.Count∧a.Core = b.Core∧a.Odd = b.Odd:=by
 obtain ⟨a1,a2,a3,a4⟩:=a
 obtain ⟨b1,b2,b3,b4⟩:=b
 simp
theorem alike_eq {a b:List Span} (ha:Len a):∃ r,Z07 a b = some r∧(r = true ↔ a = b):=by
 have hl:(a.length:Int) < 9223372036854775807:=by have:=Z1D;unfold Len at ha;omega
 unfold Z07
 by_cases hlen:a.length = b.length
 ·rw [Z8l (by omega),cond_false]
  rcases Z9b (a:=a) (b:=b) (step:=Z07.s0 a b) (eq:=fun x y => some (decide (y = x))) (fun p q => p = q) hl hlen (fun k p q hp hq => ⟨_,rfl,by rw [decide_eq_true_iff];exact ⟨Eq.symm,Eq.symm⟩⟩) (fun s => by
   unfold Z07.s0;simp only [span_beq]
   rfl) with ⟨h1,h2⟩ | ⟨h1,h2⟩
  ·rw [h1];exact ⟨true,rfl,⟨fun _ => ext_of hlen h2,fun _ => rfl⟩⟩
  ·rw [h1];exact ⟨false,rfl,⟨(fun h => nomatch h),fun e => absurd (fun k p q hp hq => by rw [e,hq] at hp;exact (Option.some.inj hp).symm) h2⟩⟩
 ·rw [bne_t (by omega),cond_true]
  exact ⟨false,rfl,⟨(fun h => nomatch h),fun e => absurd (congrArg List.length e) hlen⟩⟩
theorem alikeForms_eq {a b:Form} (hl:Lim a):∃ r,ZO a b = some r∧(r = true ↔ a = b):=by
 have hc:(a.Core.length:Int) < 4611686018427387904:=Z1I (b:=23) hl.core
 have ho:(a.Odd.length:Int) < 4611686018427387904:=Z1I (b:=31) hl.odd
 unfold ZO
 rw [form_ext]
 by_cases hp:a.Period = b.Period∧a.Count = b.Count∧a.Core.length = b.Core.length∧a.Odd.length = b.Odd.length
 ·obtain ⟨p1,p2,p3,p4⟩:=hp
  rw [Z8l p1,Z8l p2,Z8l (show (a.Core.length:Int) = b.Core.length by omega),Z8l (show (a.Odd.length:Int) = b.Odd.length by omega)]
  simp only [Y12,cond_false]
  rcases Z9b (a:=a.Core) (b:=b.Core) (step:=ZO.s0 a b) (eq:=Z07) (fun p q => p = q) (by omega) p3 (fun k p q hp hq => alike_eq (hl.sets p (Y7 hp)).1) (fun s => rfl) with ⟨h1,h2⟩ | ⟨h1,h2⟩
  ·rw [h1];simp only [Y0,Jx.elim];have ec:=ext_of p3 h2
   rcases Z9b (a:=a.Odd) (b:=b.Odd) (step:=ZO.s1 a b) (eq:=fun x y => bif x.Index != y.Index then some false else Z07 x.Ticks y.Ticks) (fun p q => p = q) (by omega) p4 (fun k p q hp hq => by
    rw [granule_ext]
    by_cases hi:p.Index = q.Index
    ·rw [Z8l hi,cond_false];obtain ⟨r,q1,q2⟩:=alike_eq (b:=q.Ticks) (hl.ticks p (Y7 hp)).2.1
     exact ⟨r,q1,by rw [q2];exact ⟨fun e => ⟨hi,e⟩,fun e => e.2⟩⟩
    ·rw [bne_t hi,cond_true];exact ⟨false,rfl,⟨(fun h => nomatch h),fun e => absurd e.1 hi⟩⟩) (fun s => by
    unfold ZO.s1
    rcases e1:at? a.Odd s with _ | x
    ·rfl
    rcases e2:at? b.Odd s with _ | y
    ·rfl
    simp only [Y0];cases x.Index != y.Index with
    | true => rfl
    | false =>
     simp only [cond_false]
     rcases Z07 x.Ticks y.Ticks with _ | r
     ·rfl
     ·rfl) with ⟨h3,h4⟩ | ⟨h3,h4⟩
   ·rw [h3];exact ⟨true,rfl,⟨fun _ => ⟨p1,p2,ec,ext_of p4 h4⟩,fun _ => rfl⟩⟩
   ·rw [h3];exact ⟨false,rfl,⟨(fun h => nomatch h),fun e => absurd (fun k p q hp hq => by rw [e.2.2.2,hq] at hp;exact (Option.some.inj hp).symm) h4⟩⟩
  ·rw [h1];exact ⟨false,rfl,⟨(fun h => nomatch h),fun e => absurd (fun k p q hp hq => by rw [e.2.2.1,hq] at hp;exact (Option.some.inj hp).symm) h2⟩⟩
 ·refine ⟨false,?_,⟨(fun h => nomatch h),fun e => absurd ⟨e.1,e.2.1,by rw [e.2.2.1],by rw [e.2.2.2]⟩ hp⟩⟩
  have:((((a.Period != b.Period) || (a.Count != b.Count)) || ((a.Core.length:Int) != (b.Core.length:Int))) || ((a.Odd.length:Int) != (b.Odd.length:Int))) = true:=by
   simp only [Y04,bne_iff_ne,ne_eq];apply Classical.byContradiction;intro hn;apply hp;refine ⟨?_,?_,?_,?_⟩ <;> apply Classical.byContradiction <;> intro h <;> apply hn
   ·exact .inl (.inl (.inl h))
   ·exact .inl (.inl (.inr h))
   ·exact .inl (.inr (by omega))
   ·exact .inr (by omega)
  rw [this];rfl
end Go.Dn

namespace Go.Dn
open Go
theorem Z9u {l:List Granule}:Inc l ↔ l.Pairwise (fun a b => a.Index < b.Index):=by
 rw [Yu]
 constructor
 ·intro h i j hi hj hij;exact h i j _ _ hij (Y2 hi) (Y2 hj)
 ·intro h j k a b hjk ha hb;obtain ⟨h1,rfl⟩:=List.getElem?_eq_some_iff.1 ha
  obtain ⟨h2,rfl⟩:=List.getElem?_eq_some_iff.1 hb
  exact h j k h1 h2 hjk
theorem Inc.filter {l:List Granule} (h:Inc l) (p:Granule→Bool):Inc (l.filter p):=Z9u.2 ((Z9u.1 h).filter p)
theorem Z6m {f c:Form} (hs:Shape f) (h:Z2W f c):csz (Z6I f c) = csz f:=by
 rw [← h.csz hs];rfl
theorem oddly_iff {f:Form} {g:Granule}:oddly f g = true ↔ ¬ csz f g.Index = g.Ticks:=by unfold oddly;rw [decide_eq_true_iff]
theorem Z4F {f c:Form} {g:Granule}:g ∈ (Z6I f c).Odd ↔ g ∈ f.Odd∧oddly f g = true:=List.mem_filter
theorem Z7G {f c:Form} (hs:Shape f) (h:Z2W f c):Z1 (Z6I f c) = Z1 f:=by
 funext i
 by_cases ho:ZT f i
 ·obtain ⟨g,hg,rfl⟩:=ho
  rw [Z0J hs.inc hg]
  by_cases hod:oddly f g = true
  ·exact Z0J (hs.inc.filter _) (Z4F.2 ⟨hg,hod⟩)
  ·have he:csz f g.Index = g.Ticks:=Classical.byContradiction fun hn => hod (oddly_iff.2 hn)
   rw [Z2k (f:=Z6I f c),Z6m hs h,he]
   rintro ⟨g',hg',e⟩;obtain ⟨m1,m2⟩:=Z4F.1 hg'
   have:=hs.inc.uniq m1 hg e
   subst this;exact hod m2
 ·rw [Z2k ho,Z2k (f:=Z6I f c),Z6m hs h]
  rintro ⟨g',hg',e⟩;exact ho ⟨g',(Z4F.1 hg').1,e⟩
theorem Z52 {f c:Form} (hs:Shape f) (h:Z2W f c):Shape (Z6I f c):=by
 have:=h.shape hs
 exact ⟨this.count,this.zero,this.per,this.core,fun g hg => hs.odd g (Z4F.1 hg).1,hs.inc.filter _⟩
theorem ZCU {f c:Form} (hl:Lim f) (hs:Shape f) (h:Z2W f c):Lim (Z6I f c):=by
 have:=h.lim hl hs
 refine ⟨this.core,this.sets,?_,fun g hg => hl.ticks g (Z4F.1 hg).1,this.count,this.period⟩
 have h1:(Z6I f c).Odd.length≤f.Odd.length:=Y0G _ _
 have:=hl.odd
 have:=YQ 32 h1
 omega
theorem turns_of {f:Form} (hs:Shape f) (h:0 < f.Count→∀ i k,i < k→cs f i ≠ []→cs f k ≠ []→lstT (cs f i) < fstT (cs f k)):Turns f:=by
 have hcnt:=hs.count
 have at_:∀ (j:Nat) (a:List Span),f.Core[j]? = some a→cs f j = a:=fun j a ha => by
  have:=(List.getElem?_eq_some_iff.1 ha).1
  rw [Z2L (by omega) (by omega),YI,Yo,ha];rfl
 have hpw:f.Core.Pairwise (fun a b => a ≠ []→b ≠ []→lstT a < fstT b):=by
  rw [Yu];intro i j hi hj hij na nb;have h1:=at_ i _ (Y2 hi)
  have h2:=at_ j _ (Y2 hj)
  have:=h (by omega) i j (by omega) (by rw [h1];exact na) (by rw [h2];exact nb)
  rw [h1,h2] at this;exact this
 constructor
 ·intro k a b ha hb;have hp:=hpw.filter (fun l => decide (l.length > 0))
  rw [Yu] at hp;obtain ⟨h1,rfl⟩:=List.getElem?_eq_some_iff.1 ha
  obtain ⟨h2,rfl⟩:=List.getElem?_eq_some_iff.1 hb
  exact hp k (k + 1) h1 h2 (by omega) (Z3R.1 (YF h1)).2 (Z3R.1 (YF h2)).2
 ·intro a b ha hb;obtain ⟨ma,na⟩:=Z3R.1 (List.mem_of_getLast? ha)
  obtain ⟨mb,nb⟩:=Z3R.1 (List.mem_of_head? hb)
  obtain ⟨j,hj⟩:=YB ma
  obtain ⟨k,hk⟩:=YB mb
  have hjl:=(List.getElem?_eq_some_iff.1 hj).1
  have h1:=at_ j _ hj
  have h2:=at_ k _ hk
  have h3:cs f ((k:Int) + f.Count) = b.map (ZR f.Period):=by rw [Z6P (by omega),h2]
  have:=h (by omega) j ((k:Int) + f.Count) (by omega) (by rw [h1];exact na) (by rw [h3];simpa using nb)
  rw [h1,h3,(ZZ _ nb).2] at this;exact this
theorem csz_order {f:Form} (hs:Shape f) (ht:Turns f) {i k:Int} (hik:i < k) (ni:csz f i ≠ []) (nk:csz f k ≠ []):lstT (csz f i) < fstT (csz f k):=by
 have h0:f.Count ≠ 0:=fun h => ni (by unfold csz;rw [if_pos h])
 unfold csz at ni nk ⊢
 rw [if_neg h0] at ni nk ⊢
 rw [if_neg h0]
 have n1:Z0e f i ≠ []:=fun h => ni (by unfold cs;rw [h];rfl)
 have n2:Z0e f k ≠ []:=fun h => nk (by unfold cs;rw [h];rfl)
 have:=ZCb hs ht h0 hik n1 n2
 unfold cs
 rw [(ZZ _ n1).1,(ZZ _ n2).2]
 exact this
theorem beside_congr {f g:Form} (h:Z1 g = Z1 f) {i:Int} (hb:Beside f i):Beside g i:=by
 intro lo hi hlo hhi
 have hu:Under f i lo:=by unfold Under at hlo ⊢;rw [h] at hlo;exact hlo
 have ha:Above f i hi:=by unfold Above at hhi ⊢;rw [h] at hhi;exact hhi
 have:=hb lo hi hu ha
 unfold BesideR fits at this ⊢
 rw [h]
 exact this
theorem Z9v {f c:Form} (hr:RightF f) (h:Z2W f c):RightF (Z6I f c):=by
 have hs:=hr.shape
 refine ⟨Z52 hs h,turns_of (Z52 hs h) (fun h0 i k hik ni nk => ?_),fun g hg => beside_congr (Z7G hs h) (hr.beside g (Z4F.1 hg).1)⟩
 rw [← Z37 h0,Z6m hs h] at ni nk ⊢
 exact csz_order hs hr.turns hik ni nk
end Go.Dn

namespace Go.Dn
open Go
theorem ZBD {α:Type} (g:α→Nat):∀ (n:Nat) (l:List α),((l.take n).map g).sum≤(l.map g).sum
 | 0,l => by simp
 | n + 1,[] => by simp
 | n + 1,x :: l => by
  have:=ZBD g n l
  simp only [List.take_succ_cons,Y0r,List.sum_cons];omega
theorem coreOf_le {f c:Form} (hs:Shape f) (h:Z2W f c):c.Count≤f.Count∧c.Period≤f.Period∧c.Core.length≤f.Core.length∧(c.Core.map List.length).sum≤(f.Core.map List.length).sum:=by
 have hp:=hs.per
 have hcnt:=hs.count
 rcases h with ⟨hb,rfl⟩ | ⟨hb,h0,d,hg,hmin,rfl⟩
 ·exact ⟨by simp only;omega,by simp only;omega,YN _,YN _⟩
 ·exact ⟨Int.le_of_dvd h0 hg.dvd,Y0J _ hp.1,by simp only [YT];omega,ZBD _ _ _⟩
end Go.Dn

namespace Go.Dn
open Go
theorem shift_ne {l:List Span} (hn:l ≠ []) {a b:Int} (h:l.map (ZR a) = l.map (ZR b)):a = b:=by
 cases l with
 | nil => exact absurd rfl hn
 | cons s l =>
  simp only [Y0r,List.cons.injEq,ZR,Span.mk.injEq] at h;omega
theorem Turn.uniq {h:Int→List Span} {d q q':Int} (t:Turn h d q) (t':Turn h d q') {i:Int} (hn:h i ≠ []):q = q':=shift_ne hn ((t i).symm.trans (t' i))
theorem ZCL {f:Form} (h0:0 < f.Count):Turn (cs f) f.Count f.Period:=Z6P (by omega)
theorem cs_some {f:Form} (hs:Shape f) (hb:¬ Bare f) (h0:0 < f.Count) (a:Int):∃ i,a≤i∧i < a + f.Count∧cs f i ≠ []:=by
 apply Classical.byContradiction
 intro hn
 apply hb
 have hz:cs f = fun _ => []:=Turn.agree (a:=a) (ZCL h0) (fun i => rfl) h0 (fun i i0 i1 => Classical.byContradiction fun h => hn ⟨i,i0,i1,h⟩)
 intro l hl
 obtain ⟨k,hk⟩:=YB hl
 have hkl:=(List.getElem?_eq_some_iff.1 hk).1
 have hcnt:=hs.count
 have:=congrFun hz (k:Int)
 rw [Z2L (by omega) (by omega),YI,Yo,hk] at this
 exact this
def NearF (f:Form) (m:Int):Prop:=∀ g ∈ f.Odd,-m≤g.Index∧g.Index≤m
end Go.Dn

namespace Go.Dn
open Go
end Go.Dn

namespace Go.Dn
open Go
theorem pigeon:∀ (l:List Int) (c:Nat→Int),(∀ a b,c a = c b→a = b)→∃ k,k≤l.length∧c k ∉ l
 | [],c,_ => ⟨0,YC _,by simp⟩
 | x :: l,c,hc => by
  by_cases h:∃ k0,c k0 = x
  ·obtain ⟨k0,rfl⟩:=h
   obtain ⟨k,h1,h2⟩:=pigeon l (fun k => if k < k0 then c k else c (k + 1)) (fun a b hab => by
    split at hab <;> split at hab <;> have:=hc _ _ hab <;> omega)
   split at h2
   ·rename_i hk;refine ⟨k,by simp;omega,?_⟩
    rw [Y0s];rintro (h | h)
    ·have:=hc _ _ h;omega
    ·exact h2 h
   ·rename_i hk;refine ⟨k + 1,by simp;omega,?_⟩
    rw [Y0s];rintro (h | h)
    ·have:=hc _ _ h;omega
    ·exact h2 h
  ·obtain ⟨k,h1,h2⟩:=pigeon l c hc
   refine ⟨k,by simp;omega,?_⟩
   rw [Y0s];rintro (h' | h')
   ·exact h ⟨k,h'⟩
   ·exact h2 h'
theorem free_core {f:Form} (hs:Shape f) (hb:¬ Bare f) (h0:0 < f.Count) (ho:f.Odd.length≤8) (a:Int):∃ j,a≤j∧j < a + f.Count * 9∧¬ ZT f j∧Z1 f j ≠ []:=by
 obtain ⟨i,h1,h2,h3⟩:=cs_some hs hb h0 a
 obtain ⟨k,hk,hn⟩:=pigeon (f.Odd.map (·.Index)) (fun k => i + f.Count * k) (fun a b hab => by
  have h4:f.Count * (a:Int) = f.Count * b:=by omega
  have:=Y0C (by omega) h4
  omega)
 rw [YZ] at hk
 have hk9:(k:Int) + 1≤9:=by omega
 have hkc:f.Count * ((k:Int) + 1)≤f.Count * 9:=YD hk9 (by omega)
 rw [Y0y,Int.mul_one] at hkc
 have hkn:0≤f.Count * (k:Int):=Y0N (by omega) (by omega)
 have hno:¬ ZT f (i + f.Count * k):=by
  rintro ⟨g,hg,he⟩;exact hn (List.mem_map.2 ⟨g,hg,he⟩)
 refine ⟨i + f.Count * k,by omega,by omega,hno,?_⟩
 rw [Z2k hno,Z37 h0,Z7N (by omega)]
 intro h
 rw [List.map_eq_nil_iff] at h
 exact h3 h
theorem anew_eq {l:List Span} (hl:Len l):Z2i l = some l:=by
 unfold Z2i new?
 have hr:=Z1D
 have hro:=Z3a
 unfold Len at hl
 rw [if_pos ⟨by omega,by omega⟩]
 simp only [Y0,Y5]
 unfold cpy
 simp
theorem anewForm_eq {f:Form} (hl:Lim f):Zb f = some f:=by
 have hr:=Z1D
 have hro:=Z3a
 have hcl:(f.Core.length:Int) < 4611686018427387904:=Z1I (b:=23) hl.core
 have hol:(f.Odd.length:Int) < 4611686018427387904:=Z1I (b:=31) hl.odd
 have h1:loopO (Zb.s0 f) (0,[]) = some f.Core:=by
  refine Z1L (I:=fun s r => r = f.Core∧∃ k:Nat,k≤f.Core.length∧s = ((k:Int),f.Core.take k)) (fun s => f.Core.length - s.1.toNat) ?_ ⟨rfl,0,YN _,rfl⟩
  rintro s r ⟨rfl,k,hk,rfl⟩;unfold Zb.s0
  by_cases hlt:k < f.Core.length
  ·left
   have htk:f.Core.take (k + 1) = f.Core.take k ++ [f.Core[k]]:=(Yf hlt).symm
   refine ⟨((k:Int) + 1,f.Core.take (k + 1)),?_,⟨rfl,k + 1,hlt,by push_cast;rfl⟩,by simp;omega⟩
   have hc:=hl.core
   rw [ZK (show (k:Int) < f.Core.length by omega),cond_true,at?_nat hlt]
   simp only [Y0,anew_eq (hl.sets _ (YF hlt)).1];rw [app?_ok (by simp only [YT,Yg,Yd];omega),Z9 (show _ by omega),htk]
   rfl
  ·right
   have:k = f.Core.length:=by omega
   subst this;rw [ZJ (by omega),cond_false,YO]
 have h2:loopO (Zb.s1 f) (0,[]) = some f.Odd:=by
  refine Z1L (I:=fun s r => r = f.Odd∧∃ k:Nat,k≤f.Odd.length∧s = ((k:Int),f.Odd.take k)) (fun s => f.Odd.length - s.1.toNat) ?_ ⟨rfl,0,YN _,rfl⟩
  rintro s r ⟨rfl,k,hk,rfl⟩;unfold Zb.s1
  by_cases hlt:k < f.Odd.length
  ·left
   have htk:f.Odd.take (k + 1) = f.Odd.take k ++ [f.Odd[k]]:=(Yf hlt).symm
   refine ⟨((k:Int) + 1,f.Odd.take (k + 1)),?_,⟨rfl,k + 1,hlt,by push_cast;rfl⟩,by simp;omega⟩
   have hc:=hl.odd
   rw [ZK (show (k:Int) < f.Odd.length by omega),cond_true,at?_nat hlt]
   simp only [Y0,anew_eq (hl.ticks _ (YF hlt)).2.1];rw [app?_ok (by simp only [YT,Yg,Yd];omega),Z9 (show _ by omega),htk]
   rfl
  ·right
   have:k = f.Odd.length:=by omega
   subst this;rw [ZJ (by omega),cond_false,YO]
 unfold Zb
 rw [h1,h2]
 rfl
end Go.Dn

namespace Go.Dn
open Go
theorem Z6K {a b:Int} (ha:In64 a) (hb:0 < b) (hb2:In64 b):Z1C a b = some (a / b,a % b):=by
 unfold Z1C
 have hb0:b ≠ 0:=by omega
 rw [nz?_ok hb0]
 simp only [Y0]
 have hq:=tdiv_in ha hb0 (by omega)
 have hfd:a.fdiv b = a / b:=(Z3u hb).1
 have hfm:a.fmod b = a % b:=(Z3u hb).2
 by_cases hr:a.tmod b < 0
 ·have h1:a.tmod b ≠ 0:=by omega
  have h2:¬(a.tmod b < 0 ↔ b < 0):=fun h => by have:=h.1 hr;omega
  obtain ⟨e1,e2⟩:=floor_up hb0 h1 h2
  have hq1:=tdiv_in1 ha hb0 h1
  rw [ZK hr,cond_true];have e3:a / b = a.tdiv b - 1:=by rw [← hfd];exact e1
  have e4:a % b = a.tmod b + b:=by rw [← hfm];exact e2
  have hm:=tmod_in (a:=a) hb2 hb0
  have hm2:=Yl a hb
  have hm3:=Ye a hb0
  simp only [Y0];unfold In64 at *
  rw [Z9 (x:=a.tdiv b) (by omega),Z9 (x:=a.tdiv b - 1) (by omega),Z9 (x:=a.tmod b + b) (by omega),e3,e4]
 ·have h2:a.tmod b = 0∨(a.tmod b < 0 ↔ b < 0):=.inr ⟨fun h => absurd h hr,fun h => by omega⟩
  obtain ⟨e1,e2⟩:=ZCT hb0 h2
  rw [ZJ hr,cond_false];have e3:a / b = a.tdiv b:=by rw [← hfd];exact e1
  have e4:a % b = a.tmod b:=by rw [← hfm];exact e2
  simp only [Y0];unfold In64 at *
  rw [Z9 (x:=a.tdiv b) (by omega),e3,e4]
def Mid (x:Int):Prop:=-1000000000000000000≤x∧x≤1000000000000000000
end Go.Dn

namespace Go.Dn
open Go
end Go.Dn

namespace Go.Dn
open Go
theorem search_eq {n:Int} (h0:0≤n) (hn:n≤4611686018427387904) {f:Int→Option Bool} {p:Int→Bool} (hf:∀ z,0≤z→z < n→f z = some (p z)) (hm:∀ a b,0≤a→a≤b→b < n→p a = true→p b = true) :
  ∃ r,Z0V n f = some r∧0≤r∧r≤n∧(∀ z,0≤z→z < r→p z = false)∧(∀ z,r≤z→z < n→p z = true):=by
 unfold Z0V
 obtain ⟨r,h1,h2⟩:=Zv (step:=Z0V.s0 f)
  (fun s => 0≤s.1∧s.1≤s.2∧s.2≤n∧(∀ z,0≤z→z < s.1→p z = false)∧(∀ z,s.2≤z→z < n→p z = true))
  (fun s => (s.2 - s.1).toNat) (fun r => 0≤r∧r≤n∧(∀ z,0≤z→z < r→p z = false)∧(∀ z,r≤z→z < n→p z = true)) (by
   rintro ⟨i,j⟩ ⟨a1,a2,a3,a4,a5⟩;simp only at a1 a2 a3 a4 a5;unfold Z0V.s0;simp only
   by_cases hlt:i < j
   ·left
    rw [ZK hlt,cond_true];have e:w64 ((IntKind.u64.wrap (w64 (i + j))).fdiv (2 ^ 1)) = (i + j) / 2:=by
     rw [Z9 (x:=i + j) (by omega),Z6Z,Y0O _ (by decide)]
     have:(2 ^ 1:Int) = 2:=rfl
     rw [this,Z9 (by omega)]
     omega
    rw [e,hf _ (by omega) (by omega)]
    simp only [Y0];cases hp:p ((i + j) / 2) with
    | false =>
     simp only [Yz,cond_true,Y0];rw [Z9 (by omega)]
     refine ⟨_,rfl,⟨by simp only;omega,by simp only;omega,a3,?_,a5⟩,by simp only;omega⟩
     intro z z0 z1;cases hz:p z with
     | false => rfl
     | true =>
      have:=hm z ((i + j) / 2) z0 (by simp only at z1;omega) (by omega) hz
      rw [hp] at this;cases this
    | true =>
     simp only [YH,cond_false,Y0];refine ⟨_,rfl,⟨a1,by simp only;omega,by simp only;omega,a4,?_⟩,by simp only;omega⟩
     intro z z0 z1;exact hm ((i + j) / 2) z (by omega) z0 z1 hp
   ·right
    rw [ZJ hlt,cond_false];exact ⟨_,rfl,a1,by omega,a4,fun z z0 z1 => a5 z (by omega) z1⟩) (0,n) ⟨by simp,h0,by simp,fun z z0 z1 => by simp only at z1;omega,fun z z0 z1 => by simp only at z0;omega⟩
 rw [h1]
 exact ⟨r,rfl,h2⟩
theorem Z5m {l:List Span} (hl:Len l):Z09 l = some (if l = [] then (⟨0,0⟩,false) else (⟨fstT l,lstT l⟩,true)):=by
 have hlen:=Z1I (b:=15) hl
 unfold Z09
 by_cases h:l = []
 ·subst h;rfl
 ·have hp:0 < l.length:=List.length_pos_iff.2 h
  rw [if_neg h,Z4i (by omega),cond_false,Z9 (by omega)]
  have e1:at? l 0 = some (l.head h):=by
   have:=at?_nat (l:=l) (k:=0) hp
   rw [show ((0:Nat):Int) = 0 from rfl] at this
   rw [this,List.head_eq_getElem]
  have e2:at? l ((l.length:Int) - 1) = some (l.getLast h):=by
   have:=at?_nat (l:=l) (k:=l.length - 1) (by omega)
   rw [show ((l.length - 1:Nat):Int) = (l.length:Int) - 1 by omega] at this
   rw [this,List.getLast_eq_getElem]
  rw [e1,e2];simp only [Y0];unfold fstT lstT;rw [Y07 h,Y02 h]
  rfl
def Z89 (g:Form) (j:Nat):Option size_spot:=if g.Core.getD j [] = [] then none else some ⟨(j:Int),⟨fstT (g.Core.getD j []),lstT (g.Core.getD j [])⟩⟩
def Z75 (g:Form) (k:Nat):List size_spot:=(List.range k).filterMap (Z89 g)
theorem spotsUp_succ (g:Form) (k:Nat):Z75 g (k + 1) = Z75 g k ++ (Z89 g k).toList:=by
 unfold Z75
 rw [List.range_succ,List.filterMap_append]
 cases h:Z89 g k <;> simp [h]
theorem Z7e (g:Form) (k:Nat):(Z75 g k).length≤k:=by
 have:=List.length_filterMap_le (Z89 g) (List.range k)
 rw [List.length_range] at this
 exact this
abbrev Z1W (g:Form):List size_spot:=Z75 g g.Core.length
theorem made_eq {f g:Form} (hg:Zi f = some g) (hl:Lim g) (hc:g.Core.length≤12):Z1M f = some ⟨g,Z1W g⟩:=by
 have hr:=Z3a
 unfold Z1M
 rw [hg]
 simp only [Y0]
 have:loopO (Z1M.s0 g) (0,[]) = some (Z1W g):=by
  refine Z1L (I:=fun s r => r = Z1W g∧∃ k:Nat,k≤g.Core.length∧s = ((k:Int),Z75 g k)) (fun s => g.Core.length - s.1.toNat) ?_ ⟨rfl,0,YN _,rfl⟩
  rintro s r ⟨rfl,k,hk,rfl⟩;unfold Z1M.s0
  by_cases hlt:k < g.Core.length
  ·left
   have hm:=YF hlt
   have hgd:g.Core.getD k [] = g.Core[k]:=by rw [YI,Y2 hlt];rfl
   have hul:=Z7e g k
   simp only;rw [ZK (show (k:Int) < g.Core.length by omega),cond_true,at?_nat hlt]
   simp only [Y0];rw [Z5m (hl.sets _ hm).1];simp only [Y0];have hsp:=spotsUp_succ g k
   unfold Z89 at hsp;rw [hgd] at hsp
   by_cases hne:g.Core[k] = []
   ·rw [if_pos hne];rw [if_pos hne] at hsp;simp only [cond_false,Y0];rw [Z9 (by omega)]
    exact ⟨_,rfl,⟨trivial,k + 1,hlt,by rw [hsp];push_cast;simp⟩,by simp only;omega⟩
   ·rw [if_neg hne];rw [if_neg hne] at hsp;simp only [cond_true];rw [app?_ok (by simp only [Yg,Yd];omega)]
    simp only [Y0];rw [Z9 (by omega)]
    exact ⟨_,rfl,⟨trivial,k + 1,hlt,by rw [hsp];push_cast;simp⟩,by simp only;omega⟩
  ·right
   have:k = g.Core.length:=by omega
   subst this;rw [ZJ (by simp only;omega),cond_false]
 rw [this]
 rfl
structure Spots (g:Form) (l:List size_spot):Prop where
 mem:∀ s ∈ l,0≤s.index∧s.index < g.Count∧cs g s.index ≠ []∧s.place.first = fstT (cs g s.index)∧s.place.last = lstT (cs g s.index)
 all:∀ j,0≤j→j < g.Count→cs g j ≠ []→∃ s ∈ l,s.index = j
 inc:l.Pairwise (fun a b => a.index < b.index)
theorem spots_ok {g:Form} (hs:Shape g):Spots g (Z1W g):=by
 have hcnt:=hs.count
 have hcs:∀ j:Nat,j < g.Core.length→cs g j = g.Core.getD j []:=fun j hj => by
  rw [Z2L (by omega) (by omega)];rfl
 refine ⟨?_,?_,?_⟩
 ·intro s hs';obtain ⟨j,hj,hjs⟩:=List.mem_filterMap.1 hs'
  have hj:=List.mem_range.1 hj
  unfold Z89 at hjs
  split at hjs
  ·cases hjs
  ·rename_i hne;cases hjs;refine ⟨by simp only;omega,by simp only;omega,?_,?_,?_⟩ <;> simp only <;> rw [hcs j hj]
   exact hne
 ·intro j h0 h1 hne;have hj:j.toNat < g.Core.length:=by omega
  have e:((j.toNat:Nat):Int) = j:=by omega
  have:=hcs j.toNat hj
  rw [e] at this;rw [this] at hne;refine ⟨⟨(j.toNat:Int),⟨fstT (g.Core.getD j.toNat []),lstT (g.Core.getD j.toNat [])⟩⟩,List.mem_filterMap.2 ⟨j.toNat,List.mem_range.2 hj,?_⟩,e⟩;unfold Z89;rw [if_neg hne]
 ·unfold Z1W Z75;rw [List.pairwise_filterMap];refine List.Pairwise.imp ?_ List.pairwise_lt_range;intro a b hab x hx y hy;unfold Z89 at hx hy
  split at hx <;> split at hy <;> simp_all
  subst hx hy;simp only;omega
theorem Z5T {g:Form} (hs:Shape g) (ht:Turns g) (h0:0 < g.Count) {i k:Int} (hik:i < k) (ni:cs g i ≠ []) (nk:cs g k ≠ []):lstT (cs g i) < fstT (cs g k):=by
 have:=csz_order hs ht hik (by rw [Z37 h0];exact ni) (by rw [Z37 h0];exact nk)
 rwa [Z37 h0] at this
theorem Z1s {g:Form} (hs:Shape g) (h0:0 < g.Count) {j:Int} (j0:0≤j) (j1:j < g.Count):RightL (cs g j):=by
 rw [Z2L j0 j1]
 have:=hs.count
 have hj:j.toNat < g.Core.length:=by omega
 rw [YI,Y2 hj]
 exact hs.core _ (YF hj)
theorem Z2J {g:Form} (h0:0 < g.Count) (i q:Int):cs g (i + g.Count * q) = (cs g i).map (ZR (q * g.Period)):=Z7N (by omega) i q
def LastC (g:Form) (t i:Int):Prop:=cs g i ≠ []∧fstT (cs g i)≤t∧∀ k,i < k→cs g k ≠ []→t < fstT (cs g k)
def FirstC (g:Form) (t i:Int):Prop:=cs g i ≠ []∧t≤lstT (cs g i)∧∀ k,k < i→cs g k ≠ []→lstT (cs g k) < t
theorem at?_get {α:Type} {l:List α} {i:Int} (h0:0≤i) (h1:i < l.length):∃ x,at? l i = some x∧l[i.toNat]? = some x∧x ∈ l:=by
 have h:i.toNat < l.length:=by omega
 exact ⟨l[i.toNat],at?_lt h0 h1,Y2 h,YF h⟩
theorem Z5E {g:Form} {l:List size_spot} (h:Spots g l) {a b:Nat} {x y:size_spot} (ha:l[a]? = some x) (hb:l[b]? = some y) (hab:a < b):x.index < y.index:=by
 have h1:=(List.getElem?_eq_some_iff.1 ha)
 have h2:=(List.getElem?_eq_some_iff.1 hb)
 obtain ⟨l1,e1⟩:=h1
 obtain ⟨l2,e2⟩:=h2
 have:=List.pairwise_iff_getElem.1 h.inc a b l1 l2 hab
 rw [e1,e2] at this
 exact this
structure Fit (g:Form):Prop where
 lim:Lim g
 shape:Shape g
 turns:Turns g
 few:g.Core.length≤12
 odds:g.Odd.length≤8
theorem Fit.per {g:Form} (h:Fit g) (h0:0 < g.Count):0 < g.Period:=by
 have h1:=h.shape.per
 have h2:=h.shape.zero
 omega
def BigT (t:Int):Prop:=-4398046511104≤t∧t≤4398046511104
theorem Z1F {g:Form} (h0:0 < g.Count) (k:Int):∃ j q,0≤j∧j < g.Count∧k = j + g.Count * q∧cs g k = (cs g j).map (ZR (q * g.Period)):=by
 have e:k = k % g.Count + g.Count * (k / g.Count):=(Yj k g.Count).symm
 refine ⟨k % g.Count,k / g.Count,Ye k (by omega),Yl k h0,e,?_⟩
 conv => lhs;rw [e]
 exact Z2J h0 _ _
theorem ZCe {n p:Int} (hp:0 < p) (hn : -8796093022208≤n∧n≤8796093022208) : -8796093022208≤n / p∧n / p≤8796093022208:=by
 constructor
 ·have : -8796093022208≤n / p ↔ -8796093022208 * p≤n:=Int.le_ediv_iff_mul_le hp
  rw [this];have : -8796093022208 * p≤-8796093022208 * 1:=by omega
  omega
 ·by_cases h:0≤n
  ·have:=Y0J p h;omega
  ·have:=Y0j (show n < 0 by omega) hp;omega
theorem ZBu {q c:Int} (hq : -8796093022208≤q∧q≤8796093022208) (hc:0≤c∧c≤12) : -105553116266496≤q * c∧q * c≤105553116266496:=by
 constructor
 ·have:=YE hq.1 hc.1
  omega
 ·have:=YE hq.2 hc.1
  omega
theorem Z9d {g:Form} (h:Fit g) (h0:0 < g.Count) {sp:List size_spot} (hsp:Spots g sp) (hn:sp ≠ []) (hln:sp.length≤12) {t:Int} (ht:BigT t) :
  ∃ i,Z0I ⟨g,sp⟩ t false = some i∧LastC g t i∧-211106232532992≤i∧i≤211106232532992:=by
 unfold BigT at ht
 have hs:=h.shape
 have hper:=h.per h0
 have hper2:=hs.per
 have hcnt:=hs.count
 have hfew:=h.few
 have hlen:0 < sp.length:=List.length_pos_iff.2 hn
 obtain ⟨x5,a1,a2,a3⟩:=at?_get (l:=sp) (i:=0) (by omega) (by omega)
 obtain ⟨b1,b2,b3,b4,b5⟩:=hsp.mem x5 a3
 have r5:=Z2u (Z1s hs h0 b1 b2) b3
 rw [← b4,← b5] at r5
 unfold ZF at r5
 unfold Z0I
 rw [cond_false]
 simp only
 rw [a1]
 simp only [Y0]
 rw [Z9 (x:=t - x5.place.first) (by omega),Z2D (by unfold In64;omega) (by unfold In64;omega),Z3k hper]
 simp only [Y0]
 have qb:=ZCe hper (n:=t - x5.place.first) (by omega)
 have qm:=Yj (t - x5.place.first) g.Period
 have q0:=Ye (t - x5.place.first) (show g.Period ≠ 0 by omega)
 have q1:=Yl (t - x5.place.first) hper
 generalize (t - x5.place.first) / g.Period = q at *
 have qp : -10995116277760≤q * g.Period∧q * g.Period≤10995116277760:=by rw [Yn];omega
 obtain ⟨r,s1,s2,s3,s4,s5⟩:=search_eq (n:=(sp.length:Int)) (by omega) (by omega)
  (f:=fun z0 => Z1o z0 ⟨g,sp⟩ q t) (p:=fun z => match sp[z.toNat]? with | some s => decide (s.place.first + q * g.Period > t) | none => true) (by
   intro z z0 z1;obtain ⟨x,e1,e2,e3⟩:=at?_get (l:=sp) z0 z1
   obtain ⟨c1,c2,c3,c4,c5⟩:=hsp.mem x e3
   have rx:=Z2u (Z1s hs h0 c1 c2) c3
   rw [← c4,← c5] at rx;unfold ZF at rx;unfold Z1o;simp only;rw [e1,e2];simp only [Y0];rw [Z9 (x:=q * g.Period) (by omega),Z9 (by omega)]) (by
   intro a b a0 hab hb hp;obtain ⟨x,e1,e2,e3⟩:=at?_get (l:=sp) a0 (by omega)
   obtain ⟨y,f1,f2,f3⟩:=at?_get (l:=sp) (show 0≤b by omega) hb
   simp only [e2,f2,decide_eq_true_eq] at hp ⊢
   by_cases hne:a = b
   ·subst hne;rw [e2] at f2;cases f2;exact hp
   ·have hlt:=Z5E hsp e2 f2 (by omega)
    obtain ⟨c1,c2,c3,c4,c5⟩:=hsp.mem x e3
    obtain ⟨d1,d2,d3,d4,d5⟩:=hsp.mem y f3
    have o1:=Z5T hs h.turns h0 hlt c3 d3
    have o2:=Z13 (Z1s hs h0 c1 c2) c3
    omega)
 rw [s1]
 simp only [Y0]
 have r1:1≤r:=by
  by_cases hr:1≤r
  ·exact hr
  ·have:r = 0:=by omega
   subst this;have:=s5 0 (by omega) (by omega)
   rw [show (0:Int).toNat = 0 from rfl] at this
   rw [show (0:Int).toNat = 0 from rfl] at a2
   simp only [a2,decide_eq_true_eq] at this;rw [Yn] at this;omega
 rw [Z9 (x:=r - 1) (by omega)]
 obtain ⟨x8,e1,e2,e3⟩:=at?_get (l:=sp) (i:=r - 1) (by omega) (by omega)
 rw [e1]
 simp only [Y0]
 obtain ⟨c1,c2,c3,c4,c5⟩:=hsp.mem x8 e3
 have hqc:=ZBu qb (c:=g.Count) (by omega)
 rw [Z9 (x:=q * g.Count) (by omega),Z9 (by omega)]
 refine ⟨_,rfl,⟨?_,?_,?_⟩,by omega,by omega⟩
 ·rw [Yn q,Z2J h0];simpa using c3
 ·rw [Yn q,Z2J h0,(ZZ _ c3).2,← c4];have:=s4 (r - 1) (by omega) (by omega)
  simp only [e2,decide_eq_false_iff_not] at this;omega
 ·intro k hk hkn;obtain ⟨j,q',j0,j1,rfl,ek⟩:=Z1F h0 k
  rw [ek] at hkn ⊢;have hjn:cs g j ≠ []:=fun h => hkn (by rw [h];rfl)
  rw [(ZZ _ hjn).2];obtain ⟨y,y1,rfl⟩:=hsp.all j j0 j1 hjn
  obtain ⟨d1,d2,d3,d4,d5⟩:=hsp.mem y y1
  obtain ⟨z,hz⟩:=YB y1
  have hz2:=(List.getElem?_eq_some_iff.1 hz).1
  have fy:x5.place.first≤y.place.first:=by
   by_cases hz0:z = 0
   ·subst hz0;rw [show (0:Int).toNat = 0 from rfl] at a2
    rw [a2] at hz;cases hz;exact Yy _
   ·have hlt:=Z5E hsp a2 hz (by omega)
    have o1:=Z5T hs h.turns h0 hlt b3 d3
    have o2:=Z13 (Z1s hs h0 b1 b2) b3
    omega
  rw [← d4]
  by_cases hqq:q'≤q
  ·have hqe:q' = q:=by
    by_cases h':q' = q
    ·exact h'
    ·have:g.Count * (q' + 1)≤g.Count * q:=YD (by omega) (by omega)
     rw [Y0y,Int.mul_one] at this;rw [Yn q] at hk;omega
   subst hqe;rw [Yn q'] at hk;have hyi:x8.index < y.index:=by omega
   have hzr:r≤(z:Int):=by
    by_cases h':r≤(z:Int)
    ·exact h'
    ·by_cases h'':z = (r - 1).toNat
     ·subst h'';rw [e2] at hz;cases hz;omega
     ·have:=Z5E hsp hz e2 (by omega);omega
   have:=s5 z hzr (by omega)
   rw [Yo] at this;simp only [hz,decide_eq_true_eq] at this;omega
  ·have:g.Period * (q + 1)≤g.Period * q':=YD (by omega) (by omega)
   rw [Y0y,Int.mul_one] at this;rw [Yn q'];omega
end Go.Dn

namespace Go.Dn
open Go
theorem ZCd {g:Form} (h:Fit g) (h0:0 < g.Count) {sp:List size_spot} (hsp:Spots g sp) (hn:sp ≠ []) (hln:sp.length≤12) {t:Int} (ht:BigT t) :
  ∃ i,Z0I ⟨g,sp⟩ t true = some i∧FirstC g t i∧-211106232532992≤i∧i≤211106232532992:=by
 unfold BigT at ht
 have hs:=h.shape
 have hper:=h.per h0
 have hper2:=hs.per
 have hcnt:=hs.count
 have hfew:=h.few
 have hlen:0 < sp.length:=List.length_pos_iff.2 hn
 obtain ⟨x5,a1,a2,a3⟩:=at?_get (l:=sp) (i:=(sp.length:Int) - 1) (by omega) (by omega)
 obtain ⟨b1,b2,b3,b4,b5⟩:=hsp.mem x5 a3
 have r5:=Z2u (Z1s hs h0 b1 b2) b3
 rw [← b4,← b5] at r5
 unfold ZF at r5
 unfold Z0I
 rw [cond_true]
 simp only
 rw [Z9 (x:=(sp.length:Int) - 1) (by omega),a1]
 simp only [Y0]
 rw [Z9 (x:=x5.place.last - t) (by omega),Z2D (by unfold In64;omega) (by unfold In64;omega),Z3k hper]
 simp only [Y0]
 have qb:=ZCe hper (n:=x5.place.last - t) (by omega)
 have qm:=Yj (x5.place.last - t) g.Period
 have q0:=Ye (x5.place.last - t) (show g.Period ≠ 0 by omega)
 have q1:=Yl (x5.place.last - t) hper
 generalize (x5.place.last - t) / g.Period = q at *
 have qp : -10995116277760≤q * g.Period∧q * g.Period≤10995116277760:=by rw [Yn];omega
 obtain ⟨r,s1,s2,s3,s4,s5⟩:=search_eq (n:=(sp.length:Int)) (by omega) (by omega)
  (f:=fun z0 => Z1p z0 ⟨g,sp⟩ q t) (p:=fun z => match sp[z.toNat]? with | some s => decide (s.place.last - q * g.Period ≥ t) | none => true) (by
   intro z z0 z1;obtain ⟨x,e1,e2,e3⟩:=at?_get (l:=sp) z0 z1
   obtain ⟨c1,c2,c3,c4,c5⟩:=hsp.mem x e3
   have rx:=Z2u (Z1s hs h0 c1 c2) c3
   rw [← c4,← c5] at rx;unfold ZF at rx;unfold Z1p;simp only;rw [e1,e2];simp only [Y0];rw [Z9 (x:=q * g.Period) (by omega),Z9 (by omega)]) (by
   intro a b a0 hab hb hp;obtain ⟨x,e1,e2,e3⟩:=at?_get (l:=sp) a0 (by omega)
   obtain ⟨y,f1,f2,f3⟩:=at?_get (l:=sp) (show 0≤b by omega) hb
   simp only [e2,f2,decide_eq_true_eq] at hp ⊢
   by_cases hne:a = b
   ·subst hne;rw [e2] at f2;cases f2;exact hp
   ·have hlt:=Z5E hsp e2 f2 (by omega)
    obtain ⟨c1,c2,c3,c4,c5⟩:=hsp.mem x e3
    obtain ⟨d1,d2,d3,d4,d5⟩:=hsp.mem y f3
    have o1:=Z5T hs h.turns h0 hlt c3 d3
    have o2:=Z13 (Z1s hs h0 d1 d2) d3
    omega)
 rw [s1]
 simp only [Y0]
 have r1:r < sp.length:=by
  by_cases hr:r < sp.length
  ·exact hr
  ·have:=s4 ((sp.length:Int) - 1) (by omega) (by omega)
   simp only [a2,decide_eq_false_iff_not] at this;rw [Yn] at this;omega
 obtain ⟨x8,e1,e2,e3⟩:=at?_get (l:=sp) (i:=r) (by omega) (by omega)
 rw [e1]
 simp only [Y0]
 obtain ⟨c1,c2,c3,c4,c5⟩:=hsp.mem x8 e3
 have hqc:=ZBu qb (c:=g.Count) (by omega)
 rw [Z9 (x:=q * g.Count) (by omega),Z9 (by omega)]
 have ei:x8.index - q * g.Count = x8.index + g.Count * (-q):=by rw [Int.mul_neg,Yn];omega
 refine ⟨_,rfl,⟨?_,?_,?_⟩,by omega,by omega⟩
 ·rw [ei,Z2J h0];simpa using c3
 ·rw [ei,Z2J h0,(ZZ _ c3).1,← c5];have:=s5 r (by omega) (by omega)
  simp only [e2,decide_eq_true_eq] at this;rw [Y0m];omega
 ·intro k hk hkn;obtain ⟨j,q',j0,j1,rfl,ek⟩:=Z1F h0 k
  rw [ek] at hkn ⊢;have hjn:cs g j ≠ []:=fun h => hkn (by rw [h];rfl)
  rw [(ZZ _ hjn).1];obtain ⟨y,y1,rfl⟩:=hsp.all j j0 j1 hjn
  obtain ⟨d1,d2,d3,d4,d5⟩:=hsp.mem y y1
  obtain ⟨z,hz⟩:=YB y1
  have hz2:=(List.getElem?_eq_some_iff.1 hz).1
  have fy:y.place.last≤x5.place.last:=by
   by_cases hz0:z = ((sp.length:Int) - 1).toNat
   ·subst hz0;rw [a2] at hz;cases hz;exact Yy _
   ·have hlt:=Z5E hsp hz a2 (by omega)
    have o1:=Z5T hs h.turns h0 hlt d3 b3
    have o2:=Z13 (Z1s hs h0 b1 b2) b3
    omega
  rw [← d5]
  by_cases hqq : -q≤q'
  ·have hqe:q' = -q:=by
    by_cases h':q' = -q
    ·exact h'
    ·have:g.Count * (-q + 1)≤g.Count * q':=YD (by omega) (by omega)
     rw [Y0y,Int.mul_one] at this;rw [ei] at hk;omega
   subst hqe;rw [ei] at hk;have hyi:y.index < x8.index:=by omega
   have hzr:(z:Int) < r:=by
    by_cases h':(z:Int) < r
    ·exact h'
    ·by_cases h'':z = r.toNat
     ·subst h'';rw [e2] at hz;cases hz;omega
     ·have:=Z5E hsp e2 hz (by omega);omega
   have:=s4 z (by omega) hzr
   rw [Yo] at this;simp only [hz,decide_eq_false_iff_not] at this;rw [Y0m];omega
  ·have:g.Period * q'≤g.Period * (-q - 1):=YD (by omega) (by omega)
   rw [Int.mul_sub,Int.mul_one,Int.mul_neg] at this;rw [Yn q'];omega
def putB (b:Int × Bool) (n:Int):Int × Bool:=if b.2 = false∨n > b.1 then (n,true) else b
structure Best (S:Int→Prop) (b:Int × Bool):Prop where
 yes:b.2 = true→S b.1∧∀ n,S n→n≤b.1
 no:b.2 = false→b.1 = 0∧∀ n,¬ S n
theorem Best.put {S S':Int→Prop} {b:Int × Bool} {n:Int} (h:Best S b) (hS:∀ m,S' m ↔ S m∨m = n):Best S' (putB b n):=by
 unfold putB
 split
 ·rename_i hc;refine ⟨fun _ => ⟨(hS n).2 (.inr rfl),fun m hm => ?_⟩,fun h => by cases h⟩
  rcases (hS m).1 hm with h1 | h1
  ·cases hb:b.2 with
   | false => exact absurd h1 ((h.no hb).2 m)
   | true =>
    have:=(h.yes hb).2 m h1
    rcases hc with h2 | h2
    ·rw [hb] at h2;cases h2
    ·simp only;omega
  ·subst h1;exact Yy _
 ·rename_i hc;have hb:b.2 = true:=by cases hb:b.2 <;> simp_all
  refine ⟨fun _ => ⟨(hS b.1).2 (.inl (h.yes hb).1),fun m hm => ?_⟩,fun h => by rw [hb] at h;cases h⟩
  rcases (hS m).1 hm with h1 | h1
  ·exact (h.yes hb).2 m h1
  ·subst h1;have:¬ (m > b.1):=fun h => hc (.inr h)
   omega
theorem Best.congr {S S':Int→Prop} {b:Int × Bool} (h:Best S b) (hS:∀ m,S' m ↔ S m):Best S' b :=
 ⟨fun hb => ⟨(hS _).2 (h.yes hb).1,fun n hn => (h.yes hb).2 n ((hS n).1 hn)⟩,fun hb => ⟨(h.no hb).1,fun n hn => (h.no hb).2 n ((hS n).1 hn)⟩⟩
theorem Best.none {S:Int→Prop} (h:∀ n,¬ S n):Best S (0,false):=⟨fun h => by (cases h),fun _ => ⟨rfl,h⟩⟩
theorem Z7I (n b:Int) (c:Bool):loopO (Z5.s1) (([n].length:Int),0,[n],b,c) = some ([n],putB (b,c) n):=by
 rw [Z21]
 have e1:Z5.s1 (([n].length:Int),0,[n],b,c) = some (.inl (([n].length:Int),1,[n],putB (b,c) n)):=by
  unfold Z5.s1;simp only;rw [ZK (show (0:Int) < ([n].length:Int) by simp),cond_true,show at? [n] 0 = some n from rfl]
  simp only [Y0];unfold putB;cases c with
  | false => rfl
  | true =>
   by_cases h:n > b
   ·simp only [h,decide_true,Y0Z,cond_true,or_true,if_true];rfl
   ·simp only [h,decide_false,YH,Y0R,cond_false,Y0I,or_self,if_false];rfl
 rw [e1]
 simp only
 rw [Z21]
 have e2:Z5.s1 (([n].length:Int),1,[n],putB (b,c) n) = some (.inr ([n],putB (b,c) n)):=by
  unfold Z5.s1;simp only;rw [ZJ (show ¬ (1:Int) < ([n].length:Int) by simp),cond_false]
 rw [e2]
theorem Z7L (n b:Int) (c:Bool):loopO (Z5.s3) (([n].length:Int),0,[n],b,c) = some ([n],putB (b,c) n):=by
 rw [Z21]
 have e1:Z5.s3 (([n].length:Int),0,[n],b,c) = some (.inl (([n].length:Int),1,[n],putB (b,c) n)):=by
  unfold Z5.s3;simp only;rw [ZK (show (0:Int) < ([n].length:Int) by simp),cond_true,show at? [n] 0 = some n from rfl]
  simp only [Y0];unfold putB;cases c with
  | false => rfl
  | true =>
   by_cases h:n > b
   ·simp only [h,decide_true,Y0Z,cond_true,or_true,if_true];rfl
   ·simp only [h,decide_false,YH,Y0R,cond_false,Y0I,or_self,if_false];rfl
 rw [e1]
 simp only
 rw [Z21]
 have e2:Z5.s3 (([n].length:Int),1,[n],putB (b,c) n) = some (.inr ([n],putB (b,c) n)):=by
  unfold Z5.s3;simp only;rw [ZJ (show ¬ (1:Int) < ([n].length:Int) by simp),cond_false]
 rw [e2]
theorem ZBm (n b:Int) (c:Bool):loopO (ZQ.s1) (([n].length:Int),0,[n],b,c) = some ([n],putB (b,c) n):=by
 rw [Z21]
 have e1:ZQ.s1 (([n].length:Int),0,[n],b,c) = some (.inl (([n].length:Int),1,[n],putB (b,c) n)):=by
  unfold ZQ.s1;simp only;rw [ZK (show (0:Int) < ([n].length:Int) by simp),cond_true,show at? [n] 0 = some n from rfl]
  simp only [Y0];unfold putB;cases c with
  | false => rfl
  | true =>
   by_cases h:n > b
   ·simp only [h,decide_true,Y0Z,cond_true,or_true,if_true];rfl
   ·simp only [h,decide_false,YH,Y0R,cond_false,Y0I,or_self,if_false];rfl
 rw [e1]
 simp only
 rw [Z21]
 have e2:ZQ.s1 (([n].length:Int),1,[n],putB (b,c) n) = some (.inr ([n],putB (b,c) n)):=by
  unfold ZQ.s1;simp only;rw [ZJ (show ¬ (1:Int) < ([n].length:Int) by simp),cond_false]
 rw [e2]
theorem ZBY (n b:Int) (c:Bool):loopO (ZQ.s3) (([n].length:Int),0,[n],b,c) = some ([n],putB (b,c) n):=by
 rw [Z21]
 have e1:ZQ.s3 (([n].length:Int),0,[n],b,c) = some (.inl (([n].length:Int),1,[n],putB (b,c) n)):=by
  unfold ZQ.s3;simp only;rw [ZK (show (0:Int) < ([n].length:Int) by simp),cond_true,show at? [n] 0 = some n from rfl]
  simp only [Y0];unfold putB;cases c with
  | false => rfl
  | true =>
   by_cases h:n > b
   ·simp only [h,decide_true,Y0Z,cond_true,or_true,if_true];rfl
   ·simp only [h,decide_false,YH,Y0R,cond_false,Y0I,or_self,if_false];rfl
 rw [e1]
 simp only
 rw [Z21]
 have e2:ZQ.s3 (([n].length:Int),1,[n],putB (b,c) n) = some (.inr ([n],putB (b,c) n)):=by
  unfold ZQ.s3;simp only;rw [ZJ (show ¬ (1:Int) < ([n].length:Int) by simp),cond_false]
 rw [e2]
theorem ZBj (n b:Int) (c:Bool):loopO (ZQ.s4) (([n].length:Int),0,[n],b,c) = some ([n],putB (b,c) n):=by
 rw [Z21]
 have e1:ZQ.s4 (([n].length:Int),0,[n],b,c) = some (.inl (([n].length:Int),1,[n],putB (b,c) n)):=by
  unfold ZQ.s4;simp only;rw [ZK (show (0:Int) < ([n].length:Int) by simp),cond_true,show at? [n] 0 = some n from rfl]
  simp only [Y0];unfold putB;cases c with
  | false => rfl
  | true =>
   by_cases h:n > b
   ·simp only [h,decide_true,Y0Z,cond_true,or_true,if_true];rfl
   ·simp only [h,decide_false,YH,Y0R,cond_false,Y0I,or_self,if_false];rfl
 rw [e1]
 simp only
 rw [Z21]
 have e2:ZQ.s4 (([n].length:Int),1,[n],putB (b,c) n) = some (.inr ([n],putB (b,c) n)):=by
  unfold ZQ.s4;simp only;rw [ZJ (show ¬ (1:Int) < ([n].length:Int) by simp),cond_false]
 rw [e2]
end Go.Dn

namespace Go.Dn
open Go
theorem Z5r {g:Form} {sp:List size_spot} (hl:Lim g) (hs:Shape g) (i:Int):∃ n,Z1Q ⟨g,sp⟩ i = some n∧(0≤n ↔ ZT g i):=by
 obtain ⟨p,h1,h2,h3⟩:=Z90 (t:=i) hl.odd hs.inc
 have e:Z2 g.Odd i (fun z0 z1 => some (Z1z z0 z1)) = some ((p:Int),decide (∃ x,g.Odd[p]? = some x∧x.Index = i)):=h3
 unfold Z1Q
 simp only
 rw [e]
 simp only [Y0]
 by_cases hx:∃ x,g.Odd[p]? = some x∧x.Index = i
 ·rw [ZK hx];refine ⟨(p:Int),rfl,fun _ => ?_,fun _ => by omega⟩
  obtain ⟨x,e1,e2⟩:=hx
  exact ⟨x,Y7 e1,e2⟩
 ·rw [ZJ hx];refine ⟨-1,rfl,fun h => by omega,?_⟩
  rintro ⟨x,hx1,hx2⟩;obtain ⟨k,hk⟩:=YB hx1
  exfalso
  have hkp:=h2 k x hk
  by_cases hkk:k = p
  ·subst hkk;exact hx ⟨x,hk,hx2⟩
  ·have:p < k:=by omega
   have hlt:=(List.getElem?_eq_some_iff.1 hk).1
   have hp:g.Odd[p]? = some (g.Odd[p]'(by omega)):=Y2 (by omega)
   have q1:=h2 p _ hp
   have q2:=hs.inc p k _ x this hp hk
   omega
theorem has_eq {g:Form} {sp:List size_spot} (hl:Lim g) (hs:Shape g) (h0:0 < g.Count) {i:Int} (hi:In64 i):Z2h ⟨g,sp⟩ i = some (decide (cs g i ≠ [])):=by
 unfold Z2h
 simp only
 rw [Z2D hi hl.count,Z3k h0]
 simp only [Y0]
 rw [(Z0t hs (by omega) i).1]
 simp only [Y0,Y5,decide_eq_decide]
 unfold cs
 rw [ne_eq,List.map_eq_nil_iff]
 constructor
 ·intro h hn;rw [hn] at h;simp at h
 ·intro h;have:=List.length_pos_iff.2 h;omega
theorem Z0L {g:Form} (h0:0 < g.Count) {i:Int} (h:¬ ZT g i):Z1 g i = cs g i:=by rw [Z2k h,Z37 h0]
def byU (up:Bool):Int:=if up then 1 else -1
def sgU (up:Bool):Int:=if up then -1 else 1
theorem sg_w (up:Bool) {x:Int} (h : -4611686018427387904≤x∧x≤4611686018427387904):w64 (w64 (0 - byU up) * x) = sgU up * x:=by
 cases up
 ·show w64 (w64 (0 - (-1)) * x) = 1 * x
  rw [show w64 (0 - (-1)) = 1 from rfl,Z9 (by omega)]
 ·show w64 (w64 (0 - 1) * x) = -1 * x
  rw [show w64 (0 - 1) = -1 from rfl,Z9 (by omega)]
open Classical in
theorem walk_eq {g:Form} {sp:List size_spot} (h:Fit g) (h0:0 < g.Count) (hb:¬ Bare g) (up:Bool) {i0:Int} (hi : -211106232532992≤i0∧i0≤211106232532992) :
  ∃ i,loopO (Z5.s0 ⟨g,sp⟩ (byU up)) i0 = some i∧¬ ZT g i∧cs g i ≠ []∧(if up then i0≤i else i≤i0)∧-211106232533992≤i∧i≤211106232533992 ∧
   ∀ k,(if up then i0≤k∧k < i else i < k∧k≤i0)→ZT g k∨cs g k = []:=by
 have hs:=h.shape
 have hcnt:=hs.count
 have hfew:=h.few
 obtain ⟨j,j1,j2,j3,j4⟩:=free_core hs hb h0 h.odds (if up then i0 else i0 - g.Count * 9 + 1)
 rw [Z0L h0 j3] at j4
 have hj:if up then i0≤j∧j < i0 + 108 else j≤i0∧i0 < j + 108:=by
  cases up
  ·simp only [Y6,if_false] at j1 j2 ⊢;omega
  ·simp only [if_true] at j1 j2 ⊢;omega
 obtain ⟨r,q1,q2⟩:=Zv (step:=Z5.s0 ⟨g,sp⟩ (byU up))
  (fun i => (if up then i0≤i∧i≤j else j≤i∧i≤i0)∧∀ k,(if up then i0≤k∧k < i else i < k∧k≤i0)→ZT g k∨cs g k = [])
  (fun i => (if up then j - i else i - j).toNat)
  (fun i => (if up then i0≤i∧i≤j else j≤i∧i≤i0)∧¬ ZT g i∧cs g i ≠ []∧∀ k,(if up then i0≤k∧k < i else i < k∧k≤i0)→ZT g k∨cs g k = []) (by
   rintro i ⟨a1,a2⟩;have hi64 : -211106232533992≤i∧i≤211106232533992:=by
    cases up
    ·simp only [Y6,if_false] at a1 hj;omega
    ·simp only [if_true] at a1 hj;omega
   unfold Z5.s0;obtain ⟨n,n1,n2⟩:=Z5r (sp:=sp) h.lim hs i
   rw [n1];simp only [Y0];rw [has_eq h.lim hs h0 (by unfold In64;omega)]
   simp only [Y0];have hc:(bif decide (n ≥ 0) then some true else some (!decide (cs g i ≠ []))) = some (decide (ZT g i∨cs g i = [])):=by
    by_cases ho:ZT g i
    ·rw [ZK (n2.2 ho),cond_true,ZK (.inl ho)]
    ·rw [ZJ (p:=n ≥ 0) (fun h => ho (n2.1 h)),cond_false]
     by_cases he:cs g i = []
     ·rw [ZK (p:=ZT g i∨cs g i = []) (.inr he),ZJ (p:=cs g i ≠ []) (fun h => h he)];rfl
     ·rw [ZJ (p:=ZT g i∨cs g i = []) (fun h => h.elim ho he),ZK (p:=cs g i ≠ []) he];rfl
   rw [hc];simp only [Y0]
   by_cases hk:ZT g i∨cs g i = []
   ·left
    rw [ZK hk,cond_true];have hij:i ≠ j:=by
     rintro rfl;exact hk.elim j3 j4
    have hw:w64 (i + byU up) = i + byU up:=Z9 (by unfold byU;cases up <;> simp <;> omega)
    rw [hw];refine ⟨_,rfl,⟨?_,?_⟩,?_⟩
    ·unfold byU;cases up
     ·simp only [Y6,if_false] at a1 ⊢;omega
     ·simp only [if_true] at a1 ⊢;omega
    ·intro k hkk
     by_cases hki:k = i
     ·subst hki;exact hk
     ·apply a2;unfold byU at hkk;cases up
      ·simp only [Y6,if_false] at hkk ⊢;omega
      ·simp only [if_true] at hkk ⊢;omega
    ·unfold byU;cases up
     ·simp only [Y6,if_false] at a1 ⊢;omega
     ·simp only [if_true] at a1 ⊢;omega
   ·right
    rw [ZJ hk,cond_false];exact ⟨_,rfl,a1,fun ho => hk (.inl ho),fun he => hk (.inr he),a2⟩) i0 ⟨by
     cases up
     ·simp only [Y6,if_false] at hj ⊢;omega
     ·simp only [if_true] at hj ⊢;omega,fun k hk => by
     cases up
     ·simp only [Y6,if_false] at hk;omega
     ·simp only [if_true] at hk;omega⟩
 refine ⟨r,q1,q2.2.1,q2.2.2.1,?_,?_,?_,q2.2.2.2⟩ <;> have:=q2.1 <;> cases up <;> simp only [Y6,if_false,if_true] at this hj ⊢ <;> omega
def AtP (g:Form) (up:Bool) (t i:Int):Prop:=Z1 g i ≠ []∧(if up then t≤lstT (Z1 g i) else fstT (Z1 g i)≤t)
theorem hull_cond {l:List Span} {up:Bool} {t:Int} (hl:Len l):∃ x:Span × Bool,Z09 l = some x∧(x.2 && ((up && (decide (x.1.To ≥ t))) || ((!up) && (decide (x.1.From≤t))))) = decide (l ≠ []∧(if up then t≤lstT l else fstT l≤t)):=by
 refine ⟨_,Z5m hl,?_⟩
 by_cases h:l = []
 ·rw [if_pos h];simp [h]
 ·rw [if_neg h];cases up <;> simp [h]
open Classical in
theorem reach_loop {g:Form} {sp:List size_spot} (h:Fit g) (up:Bool) (t:Int) {b:Int × Bool} {S:Int→Prop} (hB:Best S b) :
  ∃ r,loopO (Z5.s2 ⟨g,sp⟩ t up (byU up)) (0,b.1,b.2) = some r∧Best (fun m => S m∨∃ i,ZT g i∧AtP g up t i∧m = sgU up * i) r:=by
 have hs:=h.shape
 have hl:=h.lim
 have hodd:=h.odds
 obtain ⟨r,q1,q2⟩:=Zv (step:=Z5.s2 ⟨g,sp⟩ t up (byU up))
  (fun s => ∃ (k:Nat) (c:Int × Bool),k≤g.Odd.length∧s = ((k:Int),c.1,c.2)∧Best (fun m => S m∨∃ x ∈ g.Odd.take k,AtP g up t x.Index∧m = sgU up * x.Index) c)
  (fun s => g.Odd.length - s.1.toNat)
  (fun r => Best (fun m => S m∨∃ i,ZT g i∧AtP g up t i∧m = sgU up * i) r) (by
   rintro s ⟨k,c,hk,rfl,hc⟩;unfold Z5.s2;simp only
   by_cases hlt:k < g.Odd.length
   ·left
    have hm:=YF hlt
    have htk:g.Odd.take (k + 1) = g.Odd.take k ++ [g.Odd[k]]:=(Yf hlt).symm
    rw [ZK (show (k:Int) < g.Odd.length by omega),cond_true,at?_nat hlt]
    simp only [Y0];obtain ⟨x,x1,x2⟩:=hull_cond (l:=g.Odd[k].Ticks) (up:=up) (t:=t) (hl.ticks _ hm).2.1
    rw [x1];simp only [Y0];rw [x2];have hset:Z1 g g.Odd[k].Index = g.Odd[k].Ticks:=Z0J hs.inc hm
    have hat:(g.Odd[k].Ticks ≠ []∧(if up then t≤lstT g.Odd[k].Ticks else fstT g.Odd[k].Ticks≤t)) ↔ AtP g up t g.Odd[k].Index:=by unfold AtP;rw [hset]
    have ht:=(hs.odd _ hm).2
    unfold ZF at ht
    by_cases hcnd:AtP g up t g.Odd[k].Index
    ·rw [ZK (hat.2 hcnd),cond_true];have hw:w64 (w64 (0 - byU up) * g.Odd[k].Index) = sgU up * g.Odd[k].Index:=sg_w up (by omega)
     rw [hw,Z7L];simp only [Y0];rw [Z9 (by omega)]
     refine ⟨_,rfl,⟨k + 1,putB c (sgU up * g.Odd[k].Index),hlt,by push_cast;rfl,?_⟩,by simp only;omega⟩
     refine hc.put fun m => ?_
     rw [htk]
     constructor
     ·rintro (h1 | ⟨y,hy,h1,h2⟩)
      ·exact .inl (.inl h1)
      ·rcases List.mem_append.1 hy with h3 | h3
       ·exact .inl (.inr ⟨y,h3,h1,h2⟩)
       ·rw [YK] at h3;subst h3;exact .inr h2
     ·rintro ((h1 | ⟨y,hy,h1,h2⟩) | h1)
      ·exact .inl h1
      ·exact .inr ⟨y,YX _ hy,h1,h2⟩
      ·exact .inr ⟨_,YS _ (List.mem_singleton.2 rfl),hcnd,h1⟩
    ·rw [ZJ (fun h => hcnd (hat.1 h)),cond_false]
     simp only [Y0];rw [Z9 (by omega)]
     refine ⟨_,rfl,⟨k + 1,c,hlt,by push_cast;rfl,?_⟩,by simp only;omega⟩
     refine hc.congr fun m => ?_
     rw [htk]
     constructor
     ·rintro (h1 | ⟨y,hy,h1,h2⟩)
      ·exact .inl h1
      ·rcases List.mem_append.1 hy with h3 | h3
       ·exact .inr ⟨y,h3,h1,h2⟩
       ·rw [YK] at h3;subst h3;exact absurd h1 hcnd
     ·rintro (h1 | ⟨y,hy,h1,h2⟩)
      ·exact .inl h1
      ·exact .inr ⟨y,YX _ hy,h1,h2⟩
   ·right
    obtain rfl:k = g.Odd.length:=by omega
    rw [ZJ (by omega),cond_false]
    rw [YO] at hc;refine ⟨_,rfl,hc.congr fun m => ?_⟩
    constructor
    ·rintro (h1 | ⟨i,⟨x,hx,rfl⟩,h1,h2⟩)
     ·exact .inl h1
     ·exact .inr ⟨x,hx,h1,h2⟩
    ·rintro (h1 | ⟨x,hx,h1,h2⟩)
     ·exact .inl h1
     ·exact .inr ⟨_,⟨x,hx,rfl⟩,h1,h2⟩) (0,b.1,b.2) ⟨0,b,YN _,rfl,hB.congr fun m => by simp⟩
 exact ⟨r,q1,q2⟩
theorem spots_ne {g:Form} (hs:Shape g) (h0:0 < g.Count) (hb:¬ Bare g):Z1W g ≠ []:=by
 obtain ⟨i,i1,i2,i3⟩:=cs_some hs hb h0 0
 obtain ⟨s,s1,s2⟩:=(spots_ok hs).all i i1 (by omega) i3
 exact Y06 s1
theorem sg_sg (up:Bool) (n:Int):sgU up * (sgU up * n) = n:=by unfold sgU;cases up <;> simp
theorem ZCY {g:Form} (h:Fit g) (hb:0 < g.Count→¬ Bare g) {t:Int} (ht:BigT t) (up:Bool) :
  ∃ n b,Z5 ⟨g,Z1W g⟩ t up = some (n,b)∧Best (fun m => ∃ i,AtP g up t i∧m = sgU up * i) (sgU up * n,b)∧-300000000000000≤n∧n≤300000000000000:=by
 have hs:=h.shape
 have hby:(bif up then some (1:Int) else some (-1)) = some (byU up):=by unfold byU;cases up <;> rfl
 unfold Z5
 rw [hby]
 simp only [Y0]
 have key:∃ b:Int × Bool,(bif (decide (g.Count > 0)) then
   (Z0I ⟨g,Z1W g⟩ t up).bind fun x1 =>
   (loopO (Z5.s0 ⟨g,Z1W g⟩ (byU up)) x1).bind fun (y3:Int) =>
   (
    (loopO (Z5.s1) (([(w64 ((w64 (0 - (byU up))) * y3))].length:Int),0,[(w64 ((w64 (0 - (byU up))) * y3))],0,false)).bind fun (y6:(List Int) × Int × Bool) =>
    some (y6.1,y6.2.1,y6.2.2)).bind fun (y5:(List Int) × Int × Bool) =>
   some (y5.2.1,y5.2.2)
  else
   some (0,false)) = some b∧Best (fun m => ∃ i,¬ ZT g i∧AtP g up t i∧m = sgU up * i) b∧(b.2 = true→-211106232533992≤b.1∧b.1≤211106232533992):=by
  by_cases h0:0 < g.Count
  ·rw [ZK h0,cond_true];have hsp:=spots_ok hs
   have hn:=spots_ne hs h0 (hb h0)
   have hln:(Z1W g).length≤12:=Ya (Z7e g _) h.few
   have hcore:∃ i0,Z0I ⟨g,Z1W g⟩ t up = some i0∧(if up then FirstC g t i0 else LastC g t i0)∧-211106232532992≤i0∧i0≤211106232532992:=by
    cases up
    ·obtain ⟨i,e1,e2,e3⟩:=Z9d h h0 hsp hn hln ht
     exact ⟨i,e1,by simpa using e2,e3⟩
    ·obtain ⟨i,e1,e2,e3⟩:=ZCd h h0 hsp hn hln ht
     exact ⟨i,e1,by simpa using e2,e3⟩
   obtain ⟨i0,c1,c2,c3⟩:=hcore
   obtain ⟨i,w1,w2,w3,w4,w5,w6,w7⟩:=walk_eq (sp:=Z1W g) h h0 (hb h0) up c3
   rw [c1];simp only [Y0];rw [w1];simp only [Y0];have hw:w64 (w64 (0 - byU up) * i) = sgU up * i:=sg_w up (by omega)
   rw [hw,Z7I];simp only [Y0];refine ⟨_,rfl,?_,?_⟩
   ·show Best _ (sgU up * i,true)
    refine ⟨fun _ => ⟨⟨i,w2,?_,rfl⟩,?_⟩,fun h => by cases h⟩
    ·unfold AtP;rw [Z0L h0 w2];refine ⟨w3,?_⟩;cases up
     ·simp only [Y6,if_false] at c2 w4 ⊢
      by_cases hii:i = i0
      ·rw [hii];exact c2.2.1
      ·have o1:=Z5T hs h.turns h0 (show i < i0 by omega) w3 c2.1
       obtain ⟨j,q,j0,j1,jk,ej⟩:=Z1F h0 i
       have hjn:cs g j ≠ []:=fun hh => w3 (by rw [ej,hh];rfl)
       have o2:=Z13 (Z1s hs h0 j0 j1) hjn
       have o3:=ZZ (q * g.Period) hjn
       rw [← ej] at o3;have:=c2.2.1
       omega
     ·simp only [if_true] at c2 w4 ⊢
      by_cases hii:i = i0
      ·rw [hii];exact c2.2.1
      ·have o1:=Z5T hs h.turns h0 (show i0 < i by omega) c2.1 w3
       obtain ⟨j,q,j0,j1,jk,ej⟩:=Z1F h0 i
       have hjn:cs g j ≠ []:=fun hh => w3 (by rw [ej,hh];rfl)
       have o2:=Z13 (Z1s hs h0 j0 j1) hjn
       have o3:=ZZ (q * g.Period) hjn
       rw [← ej] at o3;have:=c2.2.1
       omega
    ·rintro m ⟨k,k1,k2,rfl⟩;unfold AtP at k2;rw [Z0L h0 k1] at k2;cases up
     ·simp only [Y6,if_false,sgU] at c2 w7 k2 ⊢
      by_cases hki:k≤i
      ·omega
      ·exfalso
       by_cases hk0:k≤i0
       ·rcases w7 k ⟨by omega,hk0⟩ with h1 | h1
        ·exact k1 h1
        ·exact k2.1 h1
       ·have:=c2.2.2 k (by omega) k2.1
        omega
     ·simp only [if_true,sgU] at c2 w7 k2 ⊢
      by_cases hki:i≤k
      ·omega
      ·exfalso
       by_cases hk0:i0≤k
       ·rcases w7 k ⟨hk0,by omega⟩ with h1 | h1
        ·exact k1 h1
        ·exact k2.1 h1
       ·have:=c2.2.2 k (by omega) k2.1
        omega
   ·intro _
    show -211106232533992≤sgU up * i∧sgU up * i≤211106232533992
    unfold sgU;cases up <;> simp only [Y6,if_false,if_true] <;> omega
  ·rw [ZJ h0,cond_false];refine ⟨_,rfl,Best.none ?_,fun h => by cases h⟩
   rintro n ⟨i,i1,i2,rfl⟩;exact i2.1 (Z0g i1 (by have:=hs.count;omega))
 obtain ⟨b,k1,k2,k3⟩:=key
 rw [k1]
 simp only [Y0]
 obtain ⟨r,r1,r2⟩:=reach_loop (sp:=Z1W g) h up t k2
 rw [r1]
 simp only [Y0]
 have hB:Best (fun m => ∃ i,AtP g up t i∧m = sgU up * i) r:=r2.congr fun m => by
  constructor
  ·rintro ⟨i,i1,i2⟩
   by_cases ho:ZT g i
   ·exact .inr ⟨i,ho,i1,i2⟩
   ·exact .inl ⟨i,ho,i1,i2⟩
  ·rintro (⟨i,i1,i2,i3⟩ | ⟨i,i1,i2,i3⟩)
   ·exact ⟨i,i2,i3⟩
   ·exact ⟨i,i2,i3⟩
 have hrb : -211106232533992≤r.1∧r.1≤211106232533992:=by
  cases hr:r.2 with
  | false => have:=(r2.no hr).1;omega
  | true =>
   rcases (r2.yes hr).1 with h1 | ⟨i,⟨x,hx,rfl⟩,i2,i3⟩
   ·cases hbb:b.2 with
    | false => exact absurd h1 ((k2.no hbb).2 _)
    | true =>
     have e1:=(k2.yes hbb).2 _ h1
     have e2:=(r2.yes hr).2 _ (.inl (k2.yes hbb).1)
     have:=k3 hbb
     omega
   ·have:=(hs.odd x hx).2
    unfold ZF at this;rw [i3];unfold sgU;cases up <;> simp only [Y6,if_false,if_true] <;> omega
 have hw:w64 (w64 (0 - byU up) * r.1) = sgU up * r.1:=sg_w up (by omega)
 rw [hw]
 refine ⟨sgU up * r.1,r.2,rfl,?_,?_⟩
 ·rw [sg_sg];exact hB
 ·unfold sgU;cases up <;> simp only [Y6,if_false,if_true] <;> omega
end Go.Dn

namespace Go.Dn
open Go
def CoreP (g:Form) (up:Bool) (d i j:Int):Prop:=cs g i ≠ []∧cs g j ≠ []∧(if up then d≤lstT (cs g j) - fstT (cs g i) else fstT (cs g j) - lstT (cs g i)≤d)
def Z1P (g:Form) (up:Bool) (d i j:Int):Prop:=Z1 g i ≠ []∧Z1 g j ≠ []∧(if up then d≤lstT (Z1 g j) - fstT (Z1 g i) else fstT (Z1 g j) - lstT (Z1 g i)≤d)
def BigI (n:Int):Prop:=-600000000000000≤n∧n≤600000000000000
theorem putB_big {b:Int × Bool} {n:Int} (hb:BigI b.1) (hn:BigI n):BigI (putB b n).1:=by
 unfold putB;split
 ·exact hn
 ·exact hb
theorem sg_big {up:Bool} {n:Int} (h:BigI n):BigI (sgU up * n):=by unfold BigI sgU at *;cases up <;> simp <;> omega
theorem Best.join {S W S':Int→Prop} {b:Int × Bool} {m0:Int} (h:Best S b) (hm:W m0) (hall:∀ n,W n→n≤m0) (hS:∀ m,S' m ↔ S m∨W m):Best S' (putB b m0):=by
 have h1:=h.put (S':=fun m => S m∨m = m0) (n:=m0) (fun m => Iff.rfl)
 refine ⟨fun hb => ⟨(hS _).2 ?_,fun n hn => ?_⟩,fun hb => ⟨(h1.no hb).1,fun n hn => ?_⟩⟩
 ·rcases (h1.yes hb).1 with h2 | h2
  ·exact .inl h2
  ·rw [h2];exact .inr hm
 ·rcases (hS n).1 hn with h2 | h2
  ·exact (h1.yes hb).2 n (.inl h2)
  ·exact Int.le_trans (hall n h2) ((h1.yes hb).2 m0 (.inr rfl))
 ·exact (h1.no hb).2 m0 (.inr rfl)
theorem sgw2 (up:Bool) {x:Int} (h:BigI x):w64 (sgU up * w64 x) = sgU up * x:=by
 unfold BigI at h
 rw [Z9 (x:=x) (by omega),Z9]
 unfold sgU;cases up <;> simp <;> omega
theorem sg_le {up:Bool} {i n x:Int} (h:sgU up * i≤sgU up * n):sgU up * (i - x)≤sgU up * (n - x):=by rw [Int.mul_sub,Int.mul_sub];omega
theorem far_spots {g:Form} (h:Fit g) (hb:0 < g.Count→¬ Bare g) {d:Int} (hd:ZF d) (up:Bool) :
  ∃ r,loopO (ZQ.s0 d up ⟨g,Z1W g⟩ (sgU up)) (0,0,false) = some r∧BigI r.1∧Best (fun m => ∃ i j,0≤i∧i < g.Count∧CoreP g up d i j∧m = sgU up * (j - i)) r:=by
 have hs:=h.shape
 have hcnt:=hs.count
 have hfew:=h.few
 have hsp:=spots_ok hs
 have hln:(Z1W g).length≤12:=Ya (Z7e g _) h.few
 generalize Z1W g = sp at *
 obtain ⟨r,q1,q2⟩:=Zv (step:=ZQ.s0 d up ⟨g,sp⟩ (sgU up))
  (fun s => ∃ (k:Nat) (c:Int × Bool),k≤sp.length∧s = ((k:Int),c.1,c.2)∧BigI c.1∧Best (fun m => ∃ x ∈ sp.take k,∃ j,CoreP g up d x.index j∧m = sgU up * (j - x.index)) c)
  (fun s => sp.length - s.1.toNat)
  (fun r => BigI r.1∧Best (fun m => ∃ i j,0≤i∧i < g.Count∧CoreP g up d i j∧m = sgU up * (j - i)) r) (by
   rintro s ⟨k,c,hk,rfl,hcb,hc⟩;unfold ZQ.s0;simp only
   by_cases hlt:k < sp.length
   ·left
    have hm:=YF hlt
    have htk:sp.take (k + 1) = sp.take k ++ [sp[k]]:=(Yf hlt).symm
    obtain ⟨b1,b2,b3,b4,b5⟩:=hsp.mem _ hm
    have h0:0 < g.Count:=by omega
    have rx:=Z2u (Z1s hs h0 b1 b2) b3
    rw [← b4,← b5] at rx;unfold ZF at rx hd;rw [ZK (show (k:Int) < sp.length by omega),cond_true,at?_nat hlt]
    simp only [Y0];have hy:(bif up then some sp[k].place.first else some sp[k].place.last) = some (if up then sp[k].place.first else sp[k].place.last):=by cases up <;> rfl
    rw [hy];simp only [Y0];have hyb : -1099511627776≤(if up then sp[k].place.first else sp[k].place.last)∧(if up then sp[k].place.first else sp[k].place.last)≤1099511627776:=by split <;> omega
    have hye:(if up then sp[k].place.first else sp[k].place.last) = if up then fstT (cs g sp[k].index) else lstT (cs g sp[k].index):=by rw [b4,b5]
    generalize (if up then sp[k].place.first else sp[k].place.last) = y at *
    rw [Z9 (x:=y + d) (by omega)]
    have hn:sp ≠ []:=Y06 hm
    have hcore:∃ i0,Z0I ⟨g,sp⟩ (y + d) up = some i0∧(if up then FirstC g (y + d) i0 else LastC g (y + d) i0)∧-211106232532992≤i0∧i0≤211106232532992:=by
     cases up
     ·obtain ⟨i,e1,e2,e3⟩:=Z9d h h0 hsp hn hln (t:=y + d) (by unfold BigT;omega)
      exact ⟨i,e1,by simpa using e2,e3⟩
     ·obtain ⟨i,e1,e2,e3⟩:=ZCd h h0 hsp hn hln (t:=y + d) (by unfold BigT;omega)
      exact ⟨i,e1,by simpa using e2,e3⟩
    obtain ⟨i0,c1,c2,c3⟩:=hcore
    rw [c1];simp only [Y0];have hbi:BigI (i0 - sp[k].index):=by unfold BigI;omega
    rw [sgw2 up hbi,ZBm];simp only [Y0];rw [Z9 (by omega)]
    refine ⟨_,rfl,⟨k + 1,putB c (sgU up * (i0 - sp[k].index)),hlt,by push_cast;rfl,putB_big hcb (sg_big hbi),?_⟩,by simp only;omega⟩
    refine hc.join (W:=fun m => ∃ j,CoreP g up d sp[k].index j∧m = sgU up * (j - sp[k].index)) ?_ ?_ ?_
    ·refine ⟨i0,⟨b3,?_⟩,rfl⟩;cases up
     ·simp only [Y6,if_false] at c2 hye ⊢;exact ⟨c2.1,by have:=c2.2.1;omega⟩
     ·simp only [if_true] at c2 hye ⊢;exact ⟨c2.1,by have:=c2.2.1;omega⟩
    ·rintro n ⟨j,j1,rfl⟩;apply sg_le;cases up
     ·simp only [Y6,if_false,sgU] at c2 hye ⊢
      by_cases hji:j≤i0
      ·omega
      ·have:=c2.2.2 j (by omega) j1.2.1
       have j2:=j1.2.2
       simp only [Y6,if_false] at j2;omega
     ·simp only [if_true,sgU] at c2 hye ⊢
      by_cases hji:i0≤j
      ·omega
      ·have:=c2.2.2 j (by omega) j1.2.1
       have j2:=j1.2.2
       simp only [if_true] at j2;omega
    ·intro m;rw [htk]
     constructor
     ·rintro ⟨x,hx,j,j1,j2⟩
      rcases List.mem_append.1 hx with h3 | h3
      ·exact .inl ⟨x,h3,j,j1,j2⟩
      ·rw [YK] at h3;subst h3;exact .inr ⟨j,j1,j2⟩
     ·rintro (⟨x,hx,j,j1,j2⟩ | ⟨j,j1,j2⟩)
      ·exact ⟨x,YX _ hx,j,j1,j2⟩
      ·exact ⟨_,YS _ (List.mem_singleton.2 rfl),j,j1,j2⟩
   ·right
    obtain rfl:k = sp.length:=by omega
    rw [ZJ (by omega),cond_false]
    rw [YO] at hc;refine ⟨_,rfl,hcb,hc.congr fun m => ?_⟩
    constructor
    ·rintro ⟨i,j,i0,i1,hp,e⟩;obtain ⟨x,hx,rfl⟩:=hsp.all i i0 i1 hp.1
     exact ⟨x,hx,j,hp,e⟩
    ·rintro ⟨x,hx,j,hp,e⟩;obtain ⟨b1,b2,_⟩:=hsp.mem x hx
     exact ⟨x.index,j,b1,b2,hp,e⟩) (0,0,false) ⟨0,(0,false),YN _,rfl,by unfold BigI;simp,Best.none (by simp)⟩
 exact ⟨r,q1,q2⟩
theorem pair_at {g:Form} {up:Bool} {d i j:Int}:Z1P g up d i j ↔ Z1 g i ≠ []∧AtP g up ((if up then fstT (Z1 g i) else lstT (Z1 g i)) + d) j:=by
 unfold Z1P AtP
 cases up
 ·simp only [Y6,if_false];exact ⟨fun h => ⟨h.1,h.2.1,by omega⟩,fun h => ⟨h.1,h.2.1,by omega⟩⟩
 ·simp only [if_true];exact ⟨fun h => ⟨h.1,h.2.1,by omega⟩,fun h => ⟨h.1,h.2.1,by omega⟩⟩
theorem pair_to {g:Form} {up:Bool} {d i j:Int}:Z1P g up d i j ↔ Z1 g j ≠ []∧AtP g (!up) ((if up then lstT (Z1 g j) else fstT (Z1 g j)) - d) i:=by
 unfold Z1P AtP
 cases up
 ·simp only [Y6,if_false,Yz,if_true];exact ⟨fun h => ⟨h.2.1,h.1,by omega⟩,fun h => ⟨h.2.1,h.1,by omega⟩⟩
 ·simp only [if_true,YH,Y6,if_false];exact ⟨fun h => ⟨h.2.1,h.1,by omega⟩,fun h => ⟨h.2.1,h.1,by omega⟩⟩
theorem sg_not (up:Bool) (n:Int):sgU (!up) * n = -(sgU up * n):=by unfold sgU;cases up <;> simp
theorem far_odds {g:Form} (h:Fit g) (hb:0 < g.Count→¬ Bare g) {d:Int} (hd:ZF d) (up:Bool) {b:Int × Bool} {S:Int→Prop} (hbb:BigI b.1) (hB:Best S b) :
  ∃ r,loopO (ZQ.s2 d up ⟨g,Z1W g⟩ (sgU up)) (0,b.1,b.2) = some r∧BigI r.1∧Best (fun m => S m∨∃ i j,(ZT g i∨ZT g j)∧Z1P g up d i j∧m = sgU up * (j - i)) r:=by
 have hs:=h.shape
 have hl:=h.lim
 have hodd:=h.odds
 obtain ⟨r,q1,q2⟩:=Zv (step:=ZQ.s2 d up ⟨g,Z1W g⟩ (sgU up))
  (fun s => ∃ (k:Nat) (c:Int × Bool),k≤g.Odd.length∧s = ((k:Int),c.1,c.2)∧BigI c.1∧Best (fun m => S m∨∃ x ∈ g.Odd.take k,∃ i j,(x.Index = i∨x.Index = j)∧Z1P g up d i j∧m = sgU up * (j - i)) c)
  (fun s => g.Odd.length - s.1.toNat)
  (fun r => BigI r.1∧Best (fun m => S m∨∃ i j,(ZT g i∨ZT g j)∧Z1P g up d i j∧m = sgU up * (j - i)) r) (by
   rintro s ⟨k,c,hk,rfl,hcb,hc⟩;unfold ZQ.s2;simp only
   by_cases hlt:k < g.Odd.length
   ·left
    have hm:=YF hlt
    have htk:g.Odd.take (k + 1) = g.Odd.take k ++ [g.Odd[k]]:=(Yf hlt).symm
    have hset:Z1 g g.Odd[k].Index = g.Odd[k].Ticks:=Z0J hs.inc hm
    have hti:=(hs.odd _ hm).2
    have hrt:=(hs.odd _ hm).1
    rw [ZK (show (k:Int) < g.Odd.length by omega),cond_true,at?_nat hlt]
    simp only [Y0];rw [Z5m (hl.ticks _ hm).2.1];simp only [Y0]
    by_cases hne:g.Odd[k].Ticks = []
    ·rw [if_pos hne];simp only [Yz,cond_true,Y0,Jx.elim];rw [Z9 (by omega)]
     refine ⟨_,rfl,⟨k + 1,c,hlt,by push_cast;rfl,hcb,?_⟩,by simp only;omega⟩
     refine hc.congr fun m => ?_
     rw [htk]
     constructor
     ·rintro (h1 | ⟨x,hx,i,j,h1,h2,h3⟩)
      ·exact .inl h1
      ·rcases List.mem_append.1 hx with h4 | h4
       ·exact .inr ⟨x,h4,i,j,h1,h2,h3⟩
       ·rw [YK] at h4;subst h4
        rcases h1 with rfl | rfl
        ·exact absurd (hset.trans hne) h2.1
        ·exact absurd (hset.trans hne) h2.2.1
     ·rintro (h1 | ⟨x,hx,h1⟩)
      ·exact .inl h1
      ·exact .inr ⟨x,YX _ hx,h1⟩
    ·rw [if_neg hne];have rx:=Z2u hrt hne
     unfold ZF at rx hd hti;simp only [YH,cond_false];have hy:(bif up then some (lstT g.Odd[k].Ticks,fstT g.Odd[k].Ticks) else some (fstT g.Odd[k].Ticks,lstT g.Odd[k].Ticks)) = some ((if up then lstT g.Odd[k].Ticks else fstT g.Odd[k].Ticks),(if up then fstT g.Odd[k].Ticks else lstT g.Odd[k].Ticks)):=by cases up <;> rfl
     rw [hy];simp only [Y0];have hyb : -1099511627776≤(if up then lstT g.Odd[k].Ticks else fstT g.Odd[k].Ticks)∧(if up then lstT g.Odd[k].Ticks else fstT g.Odd[k].Ticks)≤1099511627776:=by split <;> omega
     have hzb : -1099511627776≤(if up then fstT g.Odd[k].Ticks else lstT g.Odd[k].Ticks)∧(if up then fstT g.Odd[k].Ticks else lstT g.Odd[k].Ticks)≤1099511627776:=by split <;> omega
     have pa:∀ j,Z1P g up d g.Odd[k].Index j ↔ AtP g up ((if up then fstT g.Odd[k].Ticks else lstT g.Odd[k].Ticks) + d) j:=fun j => by
      rw [pair_at,hset];exact ⟨fun h => h.2,fun h => ⟨hne,h⟩⟩
     have pt:∀ i,Z1P g up d i g.Odd[k].Index ↔ AtP g (!up) ((if up then lstT g.Odd[k].Ticks else fstT g.Odd[k].Ticks) - d) i:=fun i => by
      rw [pair_to,hset];exact ⟨fun h => h.2,fun h => ⟨hne,h⟩⟩
     generalize (if up then fstT g.Odd[k].Ticks else lstT g.Odd[k].Ticks) = z at *
     generalize (if up then lstT g.Odd[k].Ticks else fstT g.Odd[k].Ticks) = y at *
     rw [Z9 (x:=z + d) (by omega),Z9 (x:=y - d) (by omega)]
     obtain ⟨n1,p1,r1,t1,u1,v1⟩:=ZCY h hb (t:=z + d) (by unfold BigT;omega) up
     obtain ⟨n2,p2,r2,t2,u2,v2⟩:=ZCY h hb (t:=y - d) (by unfold BigT;omega) (!up)
     rw [r1,r2];simp only [Y0];have hb1:BigI (n1 - g.Odd[k].Index):=by unfold BigI;omega
     have hb2:BigI (g.Odd[k].Index - n2):=by unfold BigI;omega
     have first:∃ c1:Int × Bool,(bif p1 then
       (
        (loopO (ZQ.s3) (([(w64 (sgU up * (w64 (n1 - g.Odd[k].Index))))].length:Int),0,[(w64 (sgU up * (w64 (n1 - g.Odd[k].Index))))],c.1,c.2)).bind fun (y16:(List Int) × Int × Bool) =>
        some (y16.1,y16.2.1,y16.2.2)).bind fun (y15:(List Int) × Int × Bool) =>
       some (y15.2.1,y15.2.2)
      else
       some (c.1,c.2)) = some c1∧BigI c1.1∧Best (fun m => (S m∨∃ x ∈ g.Odd.take k,∃ i j,(x.Index = i∨x.Index = j)∧Z1P g up d i j∧m = sgU up * (j - i))∨∃ j,Z1P g up d g.Odd[k].Index j∧m = sgU up * (j - g.Odd[k].Index)) c1:=by
      cases hp:p1 with
      | true =>
       subst hp;rw [cond_true,sgw2 up hb1,ZBY];obtain ⟨⟨i,i1,i2⟩,hall⟩:=t1.yes rfl
       have ei:i = n1:=by
        have:=congrArg (fun x => sgU up * x) i2
        simp only [sg_sg] at this;exact this.symm
       subst ei;refine ⟨_,rfl,putB_big hcb (sg_big hb1),?_⟩;refine hc.join (W:=fun m => ∃ j,Z1P g up d g.Odd[k].Index j∧m = sgU up * (j - g.Odd[k].Index)) ⟨i,(pa i).2 i1,rfl⟩ ?_ (fun m => Iff.rfl)
       rintro n ⟨j,j1,rfl⟩;exact sg_le (hall _ ⟨j,(pa j).1 j1,rfl⟩)
      | false =>
       subst hp;rw [cond_false];refine ⟨_,rfl,hcb,hc.congr fun m => ⟨?_,.inl⟩⟩
       rintro (h1 | ⟨j,j1,j2⟩)
       ·exact h1
       ·exact absurd ⟨j,(pa j).1 j1,rfl⟩ ((t1.no rfl).2 (sgU up * j))
     obtain ⟨c1,f1,f2,f3⟩:=first
     rw [f1];simp only [Y0];have second:∃ c2:Int × Bool,(bif p2 then
      (
       (loopO (ZQ.s4) (([(w64 (sgU up * (w64 (g.Odd[k].Index - n2))))].length:Int),0,[(w64 (sgU up * (w64 (g.Odd[k].Index - n2))))],c1.1,c1.2)).bind fun (y20:(List Int) × Int × Bool) =>
       some (y20.1,y20.2.1,y20.2.2)).bind fun (y19:(List Int) × Int × Bool) =>
      some (Jx.go (y19.2.1,y19.2.2))
     else
      some (Jx.go (c1.1,c1.2)):Option (Jx (Int × Bool) Unit)) = some (.go c2)∧BigI c2.1∧Best (fun m => ((S m∨∃ x ∈ g.Odd.take k,∃ i j,(x.Index = i∨x.Index = j)∧Z1P g up d i j∧m = sgU up * (j - i))∨∃ j,Z1P g up d g.Odd[k].Index j∧m = sgU up * (j - g.Odd[k].Index))∨∃ i,Z1P g up d i g.Odd[k].Index∧m = sgU up * (g.Odd[k].Index - i)) c2:=by
      cases hp:p2 with
      | true =>
       subst hp;rw [cond_true,sgw2 up hb2,ZBj];obtain ⟨⟨i,i1,i2⟩,hall⟩:=t2.yes rfl
       have ei:i = n2:=by
        have:=congrArg (fun x => sgU (!up) * x) i2
        simp only [sg_sg] at this;exact this.symm
       subst ei;refine ⟨_,rfl,putB_big f2 (sg_big hb2),?_⟩;refine f3.join (W:=fun m => ∃ i,Z1P g up d i g.Odd[k].Index∧m = sgU up * (g.Odd[k].Index - i)) ⟨i,(pt i).2 i1,rfl⟩ ?_ (fun m => Iff.rfl)
       rintro n ⟨j,j1,rfl⟩;have:=hall _ ⟨j,(pt j).1 j1,rfl⟩
       rw [sg_not,sg_not] at this;rw [Int.mul_sub,Int.mul_sub];omega
      | false =>
       subst hp;rw [cond_false];refine ⟨_,rfl,f2,f3.congr fun m => ⟨?_,.inl⟩⟩
       rintro (h1 | ⟨j,j1,j2⟩)
       ·exact h1
       ·exact absurd ⟨j,(pt j).1 j1,rfl⟩ ((t2.no rfl).2 (sgU (!up) * j))
     obtain ⟨c2,g1,g2,g3⟩:=second
     rw [g1];simp only [Y0,Jx.elim];rw [Z9 (by omega)]
     refine ⟨_,rfl,⟨k + 1,c2,hlt,by push_cast;rfl,g2,?_⟩,by simp only;omega⟩
     refine g3.congr fun m => ?_
     rw [htk]
     constructor
     ·rintro (h1 | ⟨x,hx,i,j,h1,h2,h3⟩)
      ·exact .inl (.inl (.inl h1))
      ·rcases List.mem_append.1 hx with h4 | h4
       ·exact .inl (.inl (.inr ⟨x,h4,i,j,h1,h2,h3⟩))
       ·rw [YK] at h4;subst h4
        rcases h1 with rfl | rfl
        ·exact .inl (.inr ⟨j,h2,h3⟩)
        ·exact .inr ⟨i,h2,h3⟩
     ·rintro (((h1 | ⟨x,hx,h1⟩) | ⟨j,j1,j2⟩) | ⟨i,i1,i2⟩)
      ·exact .inl h1
      ·exact .inr ⟨x,YX _ hx,h1⟩
      ·exact .inr ⟨_,YS _ (List.mem_singleton.2 rfl),_,j,.inl rfl,j1,j2⟩
      ·exact .inr ⟨_,YS _ (List.mem_singleton.2 rfl),i,_,.inr rfl,i1,i2⟩
   ·right
    obtain rfl:k = g.Odd.length:=by omega
    rw [ZJ (by omega),cond_false]
    rw [YO] at hc;refine ⟨_,rfl,hcb,hc.congr fun m => ?_⟩
    constructor
    ·rintro (h1 | ⟨i,j,h1,h2,h3⟩)
     ·exact .inl h1
     ·rcases h1 with ⟨x,hx,hxi⟩ | ⟨x,hx,hxi⟩
      ·exact .inr ⟨x,hx,i,j,.inl hxi,h2,h3⟩
      ·exact .inr ⟨x,hx,i,j,.inr hxi,h2,h3⟩
    ·rintro (h1 | ⟨x,hx,i,j,h1,h2,h3⟩)
     ·exact .inl h1
     ·rcases h1 with h1 | h1
      ·exact .inr ⟨i,j,.inl ⟨x,hx,h1⟩,h2,h3⟩
      ·exact .inr ⟨i,j,.inr ⟨x,hx,h1⟩,h2,h3⟩) (0,b.1,b.2) ⟨0,b,YN _,rfl,hbb,hB.congr fun m => by simp⟩
 exact ⟨r,q1,q2⟩
theorem ZC1 {g:Form} (h:Fit g) (h0:0 < g.Count) {up:Bool} {d i j:Int} (hp:CoreP g up d i j):∃ i' j',Z1P g up d i' j'∧j' - i' = j - i:=by
 obtain ⟨k,hk,hn⟩:=pigeon (g.Odd.map (·.Index) ++ g.Odd.map (fun x => x.Index - (j - i))) (fun k => i + g.Count * k) (fun a b hab => by
  have h4:g.Count * (a:Int) = g.Count * b:=by omega
  have:=Y0C (by omega) h4
  omega)
 rw [Yq,not_or] at hn
 have o1:¬ ZT g (i + g.Count * k):=by
  rintro ⟨x,hx,e⟩;exact hn.1 (List.mem_map.2 ⟨x,hx,e⟩)
 have o2:¬ ZT g (j + g.Count * k):=by
  rintro ⟨x,hx,e⟩;exact hn.2 (List.mem_map.2 ⟨x,hx,by rw [e];omega⟩)
 refine ⟨i + g.Count * k,j + g.Count * k,?_,by omega⟩
 obtain ⟨p1,p2,p3⟩:=hp
 unfold Z1P
 rw [Z0L h0 o1,Z0L h0 o2,Z2J h0,Z2J h0,(ZZ _ p1).1,(ZZ _ p1).2,(ZZ _ p2).1,(ZZ _ p2).2]
 refine ⟨by simpa using p1,by simpa using p2,?_⟩
 cases up
 ·simp only [Y6,if_false] at p3 ⊢;omega
 ·simp only [if_true] at p3 ⊢;omega
theorem ZCO {g:Form} (h:Fit g) {up:Bool} {d i j:Int} (hi:¬ ZT g i) (hj:¬ ZT g j) (hp:Z1P g up d i j):0 < g.Count∧∃ i' j',0≤i'∧i' < g.Count∧CoreP g up d i' j'∧j' - i' = j - i:=by
 have hc:=h.shape.count
 have h0:0 < g.Count:=by
  by_cases h0:0 < g.Count
  ·exact h0
  ·exact absurd (Z0g hi (by omega)) hp.1
 refine ⟨h0,?_⟩
 unfold Z1P at hp
 rw [Z0L h0 hi,Z0L h0 hj] at hp
 obtain ⟨s,q,s0,s1,rfl,es⟩:=Z1F h0 i
 have ej:cs g j = (cs g (j - g.Count * q)).map (ZR (q * g.Period)):=by
  have:=Z2J h0 (j - g.Count * q) q
  rwa [show j - g.Count * q + g.Count * q = j by omega] at this
 rw [es,ej] at hp
 obtain ⟨p1,p2,p3⟩:=hp
 have n1:cs g s ≠ []:=by simpa using p1
 have n2:cs g (j - g.Count * q) ≠ []:=by simpa using p2
 rw [(ZZ _ n1).1,(ZZ _ n1).2,(ZZ _ n2).1,(ZZ _ n2).2] at p3
 refine ⟨s,j - g.Count * q,s0,s1,⟨n1,n2,?_⟩,by omega⟩
 cases up
 ·simp only [Y6,if_false] at p3 ⊢;omega
 ·simp only [if_true] at p3 ⊢;omega
theorem far_eq {f g:Form} (hg:Zi f = some g) (h:Fit g) (hb:0 < g.Count→¬ Bare g) {d:Int} (hd:ZF d) (up:Bool) :
  ∃ n b,ZQ f d up = some (n,b,0)∧BigI n∧Best (fun m => ∃ i j,Z1P g up d i j∧m = sgU up * (j - i)) (sgU up * n,b):=by
 unfold ZQ
 have hr:Z0r d = true:=by unfold Z0r;unfold ZF at hd;simp;omega
 rw [hr,YH,cond_false,made_eq hg h.lim h.few]
 simp only [Y0]
 have hy:(bif up then some (-1:Int) else some 1) = some (sgU up):=by unfold sgU;cases up <;> rfl
 rw [hy]
 simp only [Y0]
 obtain ⟨r1,a1,a2,a3⟩:=far_spots h hb hd up
 rw [a1]
 simp only [Y0]
 obtain ⟨r2,b1,b2,b3⟩:=far_odds h hb hd up a2 a3
 rw [b1]
 simp only [Y0]
 have hw:w64 (sgU up * r2.1) = sgU up * r2.1:=by
  have:=sg_big (up:=up) b2
  unfold BigI at this;exact Z9 (by omega)
 rw [hw]
 refine ⟨_,_,rfl,sg_big b2,?_⟩
 rw [sg_sg]
 refine b3.congr fun m => ?_
 constructor
 ·rintro ⟨i,j,p,e⟩
  by_cases hi:ZT g i
  ·exact .inr ⟨i,j,.inl hi,p,e⟩
  ·by_cases hj:ZT g j
   ·exact .inr ⟨i,j,.inr hj,p,e⟩
   ·obtain ⟨h0,i',j',i0,i1,hp,e'⟩:=ZCO h hi hj p
    exact .inl ⟨i',j',i0,i1,hp,by rw [e,e']⟩
 ·rintro (⟨i,j,i0,i1,hp,e⟩ | ⟨i,j,ho,p,e⟩)
  ·obtain ⟨i',j',p,e'⟩:=ZC1 h (by omega) hp
   exact ⟨i',j',p,by rw [e,e']⟩
  ·exact ⟨i,j,p,e⟩
end Go.Dn

namespace Go.Dn
open Go
def FewF (f:Form):Prop:=f.Core.length≤12∧f.Odd.length≤8
theorem ZAa.few {f:Form} (h:ZAa f):FewF f:=⟨h.1,h.2.1⟩
theorem Z5p {f:Form} (hl:Lim f) (hr:RightF f) (hsm:FewF f):∃ g,Zi f = some g∧Fit g∧(0 < g.Count→¬ Bare g)∧Z1 g = Z1 f:=by
 have hs:=hr.shape
 obtain ⟨c,hc,hf⟩:=Z8c hl hs
 have hs':=Z52 hs hc
 have hr':=Z9v hr hc
 have hcl:=coreOf_le hs hc
 refine ⟨_,hf,⟨ZCU hl hs hc,hs',hr'.turns,Ya hcl.2.2.1 hsm.1,Ya (Y0G _ _) hsm.2⟩,?_,Z7G hs hc⟩
 intro h0 hb
 have ez:=Z6m hs hc
 have hz:∀ i,csz f i = []:=fun i => by rw [← ez];exact csz_bare hs' hb i
 rcases hc with ⟨h1,rfl⟩ | ⟨h1,h2,_⟩
 ·exact absurd h0 (by show ¬ (0:Int) < 0;omega)
 ·obtain ⟨i,i1,i2,i3⟩:=cs_some hs h1 h2 0
  have:=hz i
  rw [Z37 h2] at this;exact i3 this
structure DownS (f:Form) (d:Int) (r:Int × Bool):Prop where
 yes:r.2 = true→(∃ i j,Z1P f false d i j∧r.1 = j - i)∧∀ i j,Z1P f false d i j→j - i≤r.1
 no:r.2 = false→∀ i j,¬ Z1P f false d i j
structure UpS (f:Form) (d:Int) (r:Int × Bool):Prop where
 yes:r.2 = true→(∃ i j,Z1P f true d i j∧r.1 = j - i)∧∀ i j,Z1P f true d i j→r.1≤j - i
 no:r.2 = false→∀ i j,¬ Z1P f true d i j
theorem Z4E {f g:Form} (h:Z1 g = Z1 f) {up:Bool} {d i j:Int}:Z1P g up d i j ↔ Z1P f up d i j:=by unfold Z1P;rw [h]
theorem size_Down_eq {f:Form} (hl:Lim f) (hr:RightF f) (hsm:FewF f) {d:Int} (hd:ZF d):∃ n b,Z18 f d = some (n,b,0)∧BigI n∧DownS f d (n,b):=by
 obtain ⟨g,g1,g2,g3,g4⟩:=Z5p hl hr hsm
 obtain ⟨n,b,e1,e2,e3⟩:=far_eq g1 g2 g3 hd false
 unfold Z18
 rw [e1]
 refine ⟨n,b,rfl,e2,⟨fun hb => ?_,fun hb i j hp => ?_⟩⟩
 ·obtain ⟨⟨i,j,p,e⟩,hall⟩:=e3.yes hb
  simp only [sgU,Y6,if_false,Y0z] at e hall;refine ⟨⟨i,j,(Z4E g4).1 p,e⟩,fun i' j' hp => ?_⟩
  exact hall _ ⟨i',j',(Z4E g4).2 hp,rfl⟩
 ·exact (e3.no hb).2 _ ⟨i,j,(Z4E g4).2 hp,rfl⟩
theorem size_Up_eq {f:Form} (hl:Lim f) (hr:RightF f) (hsm:FewF f) {d:Int} (hd:ZF d):∃ n b,Z2n f d = some (n,b,0)∧BigI n∧UpS f d (n,b):=by
 obtain ⟨g,g1,g2,g3,g4⟩:=Z5p hl hr hsm
 obtain ⟨n,b,e1,e2,e3⟩:=far_eq g1 g2 g3 hd true
 unfold Z2n
 rw [e1]
 refine ⟨n,b,rfl,e2,⟨fun hb => ?_,fun hb i j hp => ?_⟩⟩
 ·obtain ⟨⟨i,j,p,e⟩,hall⟩:=e3.yes hb
  simp only [sgU,if_true] at e hall;refine ⟨⟨i,j,(Z4E g4).1 p,by simp only;omega⟩,fun i' j' hp => ?_⟩
  have:=hall _ ⟨i',j',(Z4E g4).2 hp,rfl⟩
  simp only;omega
 ·exact (e3.no hb).2 _ ⟨i,j,(Z4E g4).2 hp,rfl⟩
theorem down_mono {f:Form} {d d' i j:Int} (h:Z1P f false d i j) (hd:d≤d'):Z1P f false d' i j:=by
 unfold Z1P at *
 simp only [Y6,if_false] at *
 exact ⟨h.1,h.2.1,by omega⟩
noncomputable def bad (low high:Bound):Bool:=(((!(Z1r low)) || (!(Z1r high))) || (low.Inf == 1)) || (high.Inf == (-1))
structure RangeS (f:Form) (low high:Bound) (r:Range) (ok:Bool):Prop where
 none:ok = false→r = Range.mk 0 0 false false
 hi:ok = true→(r.HasHigh = true ↔ high.Inf = 0∧high.N≤1099511627776)
 lo:ok = true→(r.HasLow = true ↔ low.Inf = 0∧-1099511627776≤low.N)
 atH:ok = true→r.HasHigh = true→DownS f (max high.N (-1099511627776)) (r.High,true)
 atL:ok = true→r.HasLow = true→UpS f (min low.N 1099511627776) (r.Low,true)
 nhi:ok = true→r.HasHigh = false→r.High = 0
 nlo:ok = true→r.HasLow = false→r.Low = 0
 not:ok = false→(high.Inf = 0∧high.N≤1099511627776∧∀ i j,¬ Z1P f false (max high.N (-1099511627776)) i j)∨(low.Inf = 0∧-1099511627776≤low.N∧∀ i j,¬ Z1P f true (min low.N 1099511627776) i j)
def Near (f:Form) (m d:Int):Prop:=∃ i j,Z1P f false d i j∧m≤j - i
theorem Near.mono {f:Form} {m m' d d':Int} (h:Near f m d) (hm:m'≤m) (hd:d≤d'):Near f m' d':=by
 obtain ⟨i,j,h1,h2⟩:=h
 exact ⟨i,j,down_mono h1 hd,by omega⟩
def farI (m:Int):Int:=min (max m (-4611686018427387904)) 4611686018427387904
def LowD (f:Form) (m d:Int):Prop:=-1099511627776≤d∧d≤1099511627776∧(∀ z,-1099511627776≤z→z < d→¬ Near f m z)∧(d < 1099511627776→Near f m d)
def boundD (d:Int):Bound:=if d = -1099511627776 then ⟨-1,0⟩ else ⟨0,d⟩
theorem LowD.mono {f:Form} {m m' d d':Int} (h:LowD f m d) (h':LowD f m' d') (hm:m≤m'):d≤d':=by
 obtain ⟨a1,a2,a3,a4⟩:=h
 obtain ⟨b1,b2,b3,b4⟩:=h'
 by_cases hd:d≤d'
 ·exact hd
 ·exact absurd ((b4 (by omega)).mono hm (Yy _)) (a3 d' b1 (by omega))
def boundH (d:Int):Bound:=if d = -1099511627776 then ⟨1,0⟩ else ⟨0,-d⟩
def goodB (x:Bound):Prop:=Z1r x = true∧x.N≤1099511627776∧-1099511627776≤x.N
end Go.Dn

namespace Go.Dn
open Go
structure NearF0 (f:Form):Prop where
 lim:Lim f
 right:RightF f
 small:ZAa f
 per:f.Period≤200
 hull:∀ l ∈ f.Core,l ≠ []→-100≤fstT l∧lstT l≤100
 odd:∀ g ∈ f.Odd,-100≤g.Index∧g.Index≤100
theorem Z4f {l:List Span} (h:RightL l):∀ s ∈ l,fstT l≤s.From∧s.From≤s.To∧s.To≤lstT l:=by
 induction l with
 | nil => intro s hs;cases hs
 | cons x l ih =>
  intro s hs;have h0:=h.ok 0 x rfl
  cases l with
  | nil =>
   rw [YK] at hs;subst hs;exact ⟨Yy _,h0.2.2,Yy _⟩
  | cons y l =>
   have h1:=h.gap 0 x y rfl rfl
   have e1:lstT (x :: y :: l) = lstT (y :: l):=by simp [lstT]
   have e2:fstT (y :: l) = y.From:=rfl
   have e3:fstT (x :: y :: l) = x.From:=rfl
   have hf:=Z13 h.tail (by simp)
   rw [e1,e3]
   rcases List.mem_cons.1 hs with rfl | hs
   ·exact ⟨Yy _,h0.2.2,by omega⟩
   ·have:=ih h.tail s hs
    exact ⟨by omega,this.2.1,this.2.2⟩
theorem NearF0.core {f:Form} (h:NearF0 f) (h0:0 < f.Count) {i:Int} (hi : -2000≤i∧i≤2000):∀ s ∈ cs f i,-500000≤s.From∧s.To≤500000∧s.From≤s.To:=by
 intro s hs
 obtain ⟨j,q,j0,j1,rfl,e⟩:=Z1F h0 i
 rw [e] at hs
 obtain ⟨s0,hs0,rfl⟩:=List.mem_map.1 hs
 have hr:=Z1s h.right.shape h0 j0 j1
 have hne:cs f j ≠ []:=Y06 hs0
 have hm:cs f j ∈ f.Core:=by
  rw [Z2L j0 j1];have:=h.right.shape.count
  have hj:j.toNat < f.Core.length:=by omega
  rw [YI,Y2 hj];exact YF hj
 have h1:=Z4f hr s0 hs0
 have h2:=h.hull _ hm hne
 have hc:=h.right.shape.count
 have hp:=h.right.shape.per
 have hp2:=h.per
 have hq : -2000≤q∧q≤2000:=by
  constructor
  ·by_cases hq : -2000≤q
   ·exact hq
   ·have:f.Count * q≤f.Count * -2001:=YD (by omega) (by omega)
    have:f.Count * -2001≤j - 2001 - f.Count:=by
     have:1≤f.Count:=by omega
     omega
    omega
  ·by_cases hq:q≤2000
   ·exact hq
   ·have:f.Count * 2001≤f.Count * q:=YD (by omega) (by omega)
    omega
 have b1:=YE hq.1 hp.1
 have b2:=YE hq.2 hp.1
 simp only [ZR]
 omega
theorem NearF0.Z91 {f:Form} (h:NearF0 f) {i:Int} (hi:ZT f i) : -100≤i∧i≤100:=by
 obtain ⟨g,hg,rfl⟩:=hi
 exact h.odd g hg
theorem NearF0.fits {f:Form} (h:NearF0 f) {i:Int} (hi : -2000≤i∧i≤2000):fits f i:=by
 intro s hs
 by_cases ho:ZT f i
 ·obtain ⟨g,hg,rfl⟩:=ho
  rw [Z0J h.right.shape.inc hg] at hs;obtain ⟨k,hk⟩:=YB hs
  have:=(h.right.shape.odd g hg).1.ok k s hk
  exact ⟨this.1,this.2.1⟩
 ·by_cases h0:0 < f.Count
  ·rw [Z0L h0 ho] at hs;have:=h.core h0 hi s hs
   unfold ZF;omega
  ·rw [Z0g ho (by have:=h.right.shape.count;omega)] at hs;cases hs
theorem shift_to {f:Form} (h0:0 < f.Count) (i a:Int):∃ q,a≤i + f.Count * q∧i + f.Count * q < a + f.Count:=by
 refine ⟨-((i - a) / f.Count),?_⟩
 have e:=Yj (i - a) f.Count
 have e0:=Ye (i - a) (show f.Count ≠ 0 by omega)
 have e1:=Yl (i - a) h0
 rw [Int.mul_neg]
 omega
theorem NearF0.Z3F {f:Form} (h:NearF0 f) {i:Int} (hi:¬ ZT f i) (hn:Z1 f i ≠ []):0 < f.Count∧f.Count≤12∧cs f i ≠ []:=by
 have hc:=h.right.shape.count
 have hs:=h.small.1
 have h0:0 < f.Count:=by
  by_cases h0:0 < f.Count
  ·exact h0
  ·exact absurd (Z0g hi (by omega)) hn
 rw [Z0L h0 hi] at hn
 exact ⟨h0,by omega,hn⟩
theorem NearF0.turned {f:Form} (h:NearF0 f) (h0:0 < f.Count) {i q:Int} (hn:cs f i ≠ []) (ho:¬ ZT f (i + f.Count * q)):Z1 f (i + f.Count * q) ≠ []∧fstT (Z1 f (i + f.Count * q)) = fstT (cs f i) + q * f.Period∧lstT (Z1 f (i + f.Count * q)) = lstT (cs f i) + q * f.Period:=by
 rw [Z0L h0 ho,Z2J h0,(ZZ _ hn).1,(ZZ _ hn).2]
 exact ⟨by simpa using hn,rfl,rfl⟩
theorem NearF0.Z5k {f:Form} (h:NearF0 f) {i k:Int} (hik:i < k) (hi : -2000≤i∧i≤2000) (hk : -2000≤k∧k≤2000) (ni:Z1 f i ≠ []) (nk:Z1 f k ≠ []):lstT (Z1 f i) < fstT (Z1 f k) :=
 RightF.order h.lim h.right _ i k rfl hik (by unfold ZF;omega) (by unfold ZF;omega) (h.fits hi) (h.fits hk) ni nk
theorem NearF0.Z9G {f:Form} (h:NearF0 f) (h0:0 < f.Count) {i k:Int} (hik:i < k) (oi:¬ ZT f i) (ok:¬ ZT f k) (ni:Z1 f i ≠ []) (nk:Z1 f k ≠ []):lstT (Z1 f i) < fstT (Z1 f k):=by
 rw [Z0L h0 oi] at ni ⊢
 rw [Z0L h0 ok] at nk ⊢
 exact Z5T h.right.shape h.right.turns h0 hik ni nk
theorem NearF0.le_small {f:Form} (h:NearF0 f) {i:Int} (hi : -2000≤i∧i≤2000) (ni:Z1 f i ≠ []):fstT (Z1 f i)≤lstT (Z1 f i) :=
 Z13 (Z4d h.right.shape (h.fits hi)) ni
theorem NearF0.order {f:Form} (h:NearF0 f) {i k:Int} (hik:i < k) (ni:Z1 f i ≠ []) (nk:Z1 f k ≠ []):lstT (Z1 f i) < fstT (Z1 f k):=by
 by_cases oi:ZT f i
 ·have bi:=h.Z91 oi
  by_cases hk:k≤2000
  ·exact h.Z5k hik (by omega) (by omega) ni nk
  ·have ok:¬ ZT f k:=fun o => by have:=h.Z91 o;omega
   obtain ⟨h0,h12,ck⟩:=h.Z3F ok nk
   obtain ⟨q,q1,q2⟩:=shift_to h0 k 900
   have oc:¬ ZT f (k + f.Count * q):=fun o => by have:=h.Z91 o;omega
   obtain ⟨nc,c1,c2⟩:=h.turned h0 ck oc
   have o1:=h.Z5k (k:=k + f.Count * q) (by omega) (by omega) (by omega) ni nc
   have o2:=h.le_small (i:=k + f.Count * q) (by omega) nc
   have o3:=h.Z9G h0 (i:=k + f.Count * q) (k:=k) (by omega) oc ok nc nk
   omega
 ·by_cases ok:ZT f k
  ·have bk:=h.Z91 ok
   by_cases hi : -2000≤i
   ·exact h.Z5k hik (by omega) (by omega) ni nk
   ·obtain ⟨h0,h12,ci⟩:=h.Z3F oi ni
    obtain ⟨q,q1,q2⟩:=shift_to h0 i (-900)
    have oc:¬ ZT f (i + f.Count * q):=fun o => by have:=h.Z91 o;omega
    obtain ⟨nc,c1,c2⟩:=h.turned h0 ci oc
    have o1:=h.Z9G h0 (i:=i) (k:=i + f.Count * q) (by omega) oi oc ni nc
    have o2:=h.le_small (i:=i + f.Count * q) (by omega) nc
    have o3:=h.Z5k (i:=i + f.Count * q) (k:=k) (by omega) (by omega) (by omega) nc nk
    omega
  ·obtain ⟨h0,_,_⟩:=h.Z3F oi ni
   exact h.Z9G h0 hik oi ok ni nk
theorem NearF0.window {f:Form} (h:NearF0 f) {a j:Int} (ha : -900≤a∧a≤900) (hj:a≤j) (nj:Z1 f j ≠ []):∃ k,a≤k∧k≤max (a + 30) 130∧k≤j∧Z1 f k ≠ []:=by
 by_cases hw:j≤max (a + 30) 130
 ·exact ⟨j,hj,hw,Yy _,nj⟩
 ·have oj:¬ ZT f j:=fun o => by have:=h.Z91 o;omega
  obtain ⟨h0,h12,cj⟩:=h.Z3F oj nj
  obtain ⟨q,q1,q2⟩:=shift_to h0 j (max a 101)
  have oj':¬ ZT f (j + f.Count * q):=fun o => by have:=h.Z91 o;omega
  obtain ⟨b1,b2,b3⟩:=h.turned h0 cj oj'
  exact ⟨_,by omega,by omega,by omega,b1⟩
end Go.Dn

namespace Go.Dn
open Go
theorem move02_eq {l:List Span} {b:Int} (hl:Len l) (hr:RightL l) (hb : -1000000≤b∧b≤1000000) (ht:∀ s ∈ l,ZF (s.From + b)∧ZF (s.To + b)):Z0b l b = some (l.map (ZR b),0):=by
 have hlen:=Z1I (b:=15) hl
 have hrr:=Z1D
 have hro:=Z3a
 unfold Len at hl
 unfold Z0b
 have:loopO (Z0b.s0 l b) (0,[]) = some (.go (l.map (ZR b))):=by
  refine Z1L (I:=fun s r => r = .go (l.map (ZR b))∧∃ k:Nat,k≤l.length∧s = ((k:Int),(l.take k).map (ZR b))) (fun s => l.length - s.1.toNat) ?_ ⟨rfl,0,YN _,rfl⟩
  rintro s r ⟨rfl,k,hk,rfl⟩;unfold Z0b.s0;simp only
  by_cases hlt:k < l.length
  ·left
   have hm:=YF hlt
   have h1:=hr.ok k l[k] (Y2 hlt)
   have h2:=ht _ hm
   unfold ZF at h1 h2;rw [ZK (show (k:Int) < l.length by omega),cond_true,at?_nat hlt]
   simp only [Y0];rw [Z9 (x:=1099511627776 - l[k].To) (by omega),Z9 (x:=-1099511627776 - l[k].From) (by omega),ZJ (show ¬ b > 1099511627776 - l[k].To by omega),ZJ (show ¬ b < -1099511627776 - l[k].From by omega)]
   simp only [cond_false,Y0];rw [Z9 (x:=l[k].From + b) (by omega),Z9 (x:=l[k].To + b) (by omega),app?_ok (by simp only [YZ,YT,Yg,Yd];omega)]
   simp only [Y0];rw [Z9 (by omega)]
   refine ⟨_,rfl,⟨trivial,k + 1,hlt,?_⟩,by simp only;omega⟩
   rw [(Yf hlt).symm,Y05]
   push_cast
   rfl
  ·right
   obtain rfl:k = l.length:=by omega
   rw [ZJ (by omega),cond_false,YO]
 rw [this]
 rfl
structure GapS (f:Form) (m:Int) (lo:Int→Prop) (b:Int × Bool):Prop where
 yes:b.2 = true→∃ i j,i + m≤j∧Z1 f i ≠ []∧Z1 f j ≠ []∧b.1 = fstT (Z1 f j) - lstT (Z1 f i)
 all:∀ i j,lo i→i + m≤j→Z1 f i ≠ []→Z1 f j ≠ []→b.2 = true∧b.1≤fstT (Z1 f j) - lstT (Z1 f i)
end Go.Dn

namespace Go.Dn
open Go
theorem sub_fit {a b:Int} (ha:In64 a) (hb:In64 b):Z2r a b = fitS (a - b):=by
 unfold In64 at ha hb
 unfold Z2r fitS w64
 rw [Z5Y]
 cases h:((decide ((a - b + 9223372036854775808) % 18446744073709551616 - 9223372036854775808 < a) != decide (b > 0)) && b != 0)
 ·rw [cond_false];simp only [Y0a,bne_eq_false_iff_eq,decide_eq_decide] at h
  split <;> simp only [Y3,and_true] <;> omega
 ·rw [cond_true];simp only [Y9,bne_iff_ne,ne_eq,decide_eq_decide] at h
  split <;> simp only [Y3] <;> omega
theorem ZC6 {f:Form} (hl:Lim f):∃ b,Z2N f = some b∧(b = true ↔ ZAa f∧RightF f):=by
 unfold Z2N
 obtain ⟨b,hb,hbs⟩:=Z8Q hl
 rw [hb]
 simp only [Y0]
 cases b with
 | false => exact ⟨false,rfl,fun h => (by cases h),fun h => by have:=hbs.2 h.1;cases this⟩
 | true =>
  have hsm:=hbs.1 rfl
  have hnl:¬ LongF f:=by unfold LongF;have:=hsm.1;have:=hsm.2.1;have:=hsm.2.2;omega
  rw [cond_true]
  rcases gran_Right_eq hl with ⟨h,_⟩ | ⟨_,h1,h2⟩ | ⟨_,h1,h2⟩
  ·exact absurd h hnl
  ·rw [h2];exact ⟨true,rfl,fun _ => ⟨hsm,h1⟩,fun _ => rfl⟩
  ·rw [h2];exact ⟨false,rfl,fun h => (by cases h),fun h => absurd h.2 h1⟩
theorem Z8A (x:Int × Int) (b:Int) (c:Bool):loopO (Z7.s1 x) (0,b,c) = some (putB (b,c) x.1):=by
 rw [Z21]
 have e1:Z7.s1 x (0,b,c) = some (.inl (1,putB (b,c) x.1)):=by
  unfold Z7.s1;simp only;rw [ZK (show (0:Int) < ([x.1].length:Int) by simp),cond_true,show at? [x.1] 0 = some x.1 from rfl]
  simp only [Y0];unfold putB;cases c with
  | false => rfl
  | true =>
   by_cases h:x.1 > b
   ·simp only [h,decide_true,Y0Z,cond_true,or_true,if_true];rfl
   ·simp only [h,decide_false,YH,Y0R,cond_false,Y0I,or_self,if_false];rfl
 rw [e1]
 simp only
 rw [Z21]
 have e2:Z7.s1 x (1,putB (b,c) x.1) = some (.inr (putB (b,c) x.1)):=by
  unfold Z7.s1;simp only;rw [ZJ (show ¬ (1:Int) < ([x.1].length:Int) by simp),cond_false]
 rw [e2]
theorem put_over_s3 (x:Int × Int) (b:Int) (c:Bool):loopO (Z7.s3 x) (0,b,c) = some (putB (b,c) x.1):=Z8A x b c
theorem put_over_s4 (x:Int × Int) (b:Int) (c:Bool):loopO (Z7.s4 x) (0,b,c) = some (putB (b,c) x.1):=Z8A x b c
noncomputable def lookO (A B:Option (size_place × Bool × Int)) (tell:size_place→size_place→Option (Int × Int)) (c:Int × Bool):Option (Int × Int × Bool) :=
 A.bind fun x1 =>
 bif ((x1.2.2 != 0) || (!x1.2.1)) then
  some (x1.2.2,c.1,c.2)
 else
  B.bind fun x2 =>
  bif ((x2.2.2 != 0) || (!x2.2.1)) then
   some (x2.2.2,c.1,c.2)
  else
   (tell x1.1 x2.1).bind fun x3 =>
   (bif (x3.2 == 0) then some (putB (c.1,c.2) x3.1) else some (c.1,c.2)).bind fun (y3:Int × Bool) =>
   some (x3.2,y3.1,y3.2)
theorem over_s0_eq (f:size_form) (k:Int) (tell:size_place→size_place→Option (Int × Int)) (s1:Int × Int × Bool):Z7.s0 f k tell s1 =
  (bif (decide (s1.1 < f.Form.Count)) then
   (lookO (Zx f s1.1) (Zx f (w64 (s1.1 + k))) tell (s1.2.1,s1.2.2)).bind fun (y2:Int × Int × Bool) =>
   (bif (y2.1 != 0) then
    some (.inr (.ret (0,false,10)))
   else
    some (.inl ((w64 (s1.1 + 1)),y2.2.1,y2.2.2)))
  else
   some (.inr (.go (s1.2.1,s1.2.2)))):=by
 unfold Z7.s0 lookO
 simp only [Z8A,Y0]
theorem over_s2_eq (f:size_form) (k:Int) (tell:size_place→size_place→Option (Int × Int)) (s3:Int × Int × Bool):Z7.s2 f k tell s3 =
  (bif (decide (s3.1 < (f.Form.Odd.length:Int))) then
   ((at? f.Form.Odd s3.1).bind fun x5 =>
    (bif ((x5.Ticks.length:Int) == 0) then
     some (.go (s3.2.1,s3.2.2))
    else
     (lookO (Z01 f x5.Index) (Z01 f (w64 (x5.Index + k))) tell (s3.2.1,s3.2.2)).bind fun (y10:Int × Int × Bool) =>
     (
      (bif (y10.1 != 0) then
       some (true,(y10.2.1,y10.2.2))
      else
       (lookO (Z01 f (w64 (x5.Index - k))) (Z01 f (w64 ((w64 (x5.Index - k)) + k))) tell (y10.2.1,y10.2.2)).bind fun (y17:Int × Int × Bool) =>
       some ((y17.1 != 0),(y17.2.1,y17.2.2)))).bind fun (y16:Bool × Int × Bool) =>
     (bif y16.1 then
      some (.ret (0,false,10))
     else
      some (.go (y16.2.1,y16.2.2))))).bind fun (y9:Jx (Int × Bool) (Int × Bool × Int)) =>
   y9.elim (fun r' =>
     some (.inr (.ret r'))) fun a5 =>
   some (.inl ((w64 (s3.1 + 1)),a5.1,a5.2))
  else
   some (.inr (.go (s3.2.1,s3.2.2)))):=by
 unfold Z7.s2 lookO
 simp only [put_over_s3,put_over_s4,Y0]
def AtQ (A:Option (size_place × Bool × Int)) (l:List Span):Prop :=
 ∃ p b e,A = some (p,b,e)∧(e = 0→(b = true ↔ l ≠ [])∧(l ≠ []→p = ⟨fstT l,lstT l⟩∧In64 p.first∧In64 p.last))
theorem plain_at {g:Form} {sp:List size_spot} (hl:Lim g) (hs:Shape g) {i:Int} (hi:In64 i):AtQ (Zx ⟨g,sp⟩ i) (csz g i):=by
 unfold Zx
 have hcnt:=hs.count
 by_cases h0:g.Count = 0
 ·simp only;rw [Z84 h0,cond_true];refine ⟨_,_,_,rfl,fun _ => ?_⟩
  unfold csz;rw [if_pos h0]
  simp
 ·have hp:0 < g.Count:=by omega
  simp only;rw [Z4i h0,cond_false,Z2D hi hl.count,Z3k hp];simp only [Y0];obtain ⟨c1,c2⟩:=Z0t hs h0 i
  rw [c1];simp only [Y0];rw [Z5m (hl.sets _ c2).1];simp only [Y0];have hcsz:csz g i = (Z0e g i).map (ZR (i / g.Count * g.Period)):=by rw [Z37 hp];rfl
  by_cases hn:Z0e g i = []
  ·rw [if_pos hn];simp only [Yz,cond_true];refine ⟨_,_,_,rfl,fun _ => ?_⟩
   rw [hcsz,hn]
   simp
  ·rw [if_neg hn];simp only [YH,cond_false];have hr:RightL (Z0e g i):=hs.core _ c2
   have ht:=Z2u hr hn
   unfold ZF at ht;have hq:In64 (i / g.Count):=by
    have h1:=Yj i g.Count
    have h2:=Ye i h0
    have h3:=Yl i hp
    unfold In64 at hi ⊢;have q1:i / g.Count≤9223372036854775807:=Y0c hp (by
     have:(9223372036854775807:Int) * 1≤9223372036854775807 * g.Count:=YD (by omega) (by decide)
     omega)
    have q2 : -9223372036854775808≤i / g.Count:=Y0H hp (by
     have:(9223372036854775808:Int) * 1≤9223372036854775808 * g.Count:=YD (by omega) (by decide)
     omega)
    exact ⟨q2,q1⟩
   rw [Z7v hq hl.period];have hne:(Z0e g i).map (ZR (i / g.Count * g.Period)) ≠ []:=by simpa using hn
   obtain ⟨l1,l2⟩:=ZZ (i / g.Count * g.Period) hn
   rcases Z9H (i / g.Count * g.Period) with ⟨f1,f2⟩ | ⟨f1,f2⟩
   ·rw [f2];simp only;rw [Z3n (by unfold In64;omega) f1,Z3n (by unfold In64;omega) f1]
    rcases Z9H (fstT (Z0e g i) + i / g.Count * g.Period) with ⟨a1,a2⟩ | ⟨a1,a2⟩
    ·rw [a2]
     rcases Z9H (lstT (Z0e g i) + i / g.Count * g.Period) with ⟨b1,b2⟩ | ⟨b1,b2⟩
     ·rw [b2];refine ⟨_,_,_,rfl,fun _ => ?_⟩
      rw [hcsz,l1,l2];refine ⟨⟨fun _ => hne,fun _ => rfl⟩,fun _ => ⟨rfl,a1,b1⟩⟩
     ·rw [b2];exact ⟨_,_,_,rfl,fun h => by cases h⟩
    ·rw [a2];exact ⟨_,_,_,rfl,fun h => by cases h⟩
   ·rw [f2];exact ⟨_,_,_,rfl,fun h => by cases h⟩
theorem at_at {g:Form} {sp:List size_spot} (hl:Lim g) (hs:Shape g) {i:Int} (hi:In64 i):AtQ (Z01 ⟨g,sp⟩ i) (Z1 g i):=by
 obtain ⟨p,h1,h2,h3⟩:=Z90 (t:=i) hl.odd hs.inc
 have e:Z2 g.Odd i (fun z0 z1 => some (Z1z z0 z1)) = some ((p:Int),decide (∃ x,g.Odd[p]? = some x∧x.Index = i)):=h3
 by_cases hx:∃ x,g.Odd[p]? = some x∧x.Index = i
 ·unfold Z01 Z1Q;simp only;rw [e];simp only [Y0];rw [ZK hx];simp only [YH,cond_false,Y0];rw [ZK (show (p:Int) ≥ 0 by omega),cond_true]
  obtain ⟨x,e1,rfl⟩:=hx
  have hm:=Y7 e1
  have hat:at? g.Odd (p:Int) = some x:=by
   unfold at?;rw [if_pos (by omega),Yo,e1]
  rw [hat];simp only [Y0];rw [Z5m (hl.ticks _ hm).2.1,Z0J hs.inc hm];simp only [Y0];refine ⟨_,_,_,rfl,fun _ => ?_⟩
  by_cases hn:x.Ticks = []
  ·rw [if_pos hn,hn];simp
  ·rw [if_neg hn];have ht:=Z2u (hs.odd x hm).1 hn
   unfold ZF at ht;refine ⟨⟨fun _ => hn,fun _ => rfl⟩,fun _ => ⟨rfl,?_,?_⟩⟩ <;> simp only <;> unfold In64 <;> omega
 ·obtain ⟨n,n1,n2⟩:=Z5r (sp:=sp) hl hs i
  have hno:¬ ZT g i:=by
   rintro ⟨x,hx1,hx2⟩;obtain ⟨k,hk⟩:=YB hx1
   have hkp:=h2 k x hk
   by_cases hkk:k = p
   ·subst hkk;exact hx ⟨x,hk,hx2⟩
   ·have:p < k:=by omega
    have hlt:=(List.getElem?_eq_some_iff.1 hk).1
    have hp:g.Odd[p]? = some (g.Odd[p]'(by omega)):=Y2 (by omega)
    have q1:=h2 p _ hp
    have q2:=hs.inc p k _ x this hp hk
    omega
  unfold Z01
  rw [n1];simp only [Y0];rw [ZJ (fun h => hno (n2.1 h)),cond_false,Z2k hno]
  obtain ⟨p',b,e',h,hh⟩:=plain_at (sp:=sp) hl hs hi
  rw [h];exact ⟨p',b,e',rfl,hh⟩
structure Tells (tell:size_place→size_place→Option (Int × Int)) (tv:List Span→List Span→Int):Prop where
 eq:∀ l m,In64 (fstT l)→In64 (lstT l)→In64 (fstT m)→In64 (lstT m)→tell ⟨fstT l,lstT l⟩ ⟨fstT m,lstT m⟩ = some (fitS (tv l m))
 shift:∀ l m d,l ≠ []→m ≠ []→tv (l.map (ZR d)) (m.map (ZR d)) = tv l m
theorem ZAw {A B:Option (size_place × Bool × Int)} {l m:List Span} {tell:size_place→size_place→Option (Int × Int)} {tv:List Span→List Span→Int} (ht:Tells tell tv) (hA:AtQ A l) (hB:AtQ B m)
  {c:Int × Bool} {S:Int→Prop} (hc:Best S c) (hi:In64 c.1) :
  ∃ e c',lookO A B tell c = some (e,c')∧(e = 0→Best (fun n => S n∨(l ≠ []∧m ≠ []∧n = tv l m)) c'∧In64 c'.1):=by
 obtain ⟨p,b,e,rfl,h1⟩:=hA
 obtain ⟨p',b',e',rfl,h2⟩:=hB
 unfold lookO
 simp only [Y0]
 by_cases he:e = 0
 ·obtain ⟨i1,i2⟩:=h1 he
  subst he;cases b with
  | false =>
   have hl:l = []:=by
    apply Classical.byContradiction;intro h;have:=i1.2 h;cases this
   refine ⟨0,c,rfl,fun _ => ⟨hc.congr fun n => ?_,hi⟩⟩
   exact ⟨fun h => h.elim id fun h => absurd hl h.1,.inl⟩
  | true =>
   have hl:=i1.1 rfl
   obtain ⟨rfl,a1,a2⟩:=i2 hl
   by_cases he':e' = 0
   ·obtain ⟨j1,j2⟩:=h2 he'
    subst he';cases b' with
    | false =>
     have hm:m = []:=by
      apply Classical.byContradiction;intro h;have:=j1.2 h;cases this
     refine ⟨0,c,rfl,fun _ => ⟨hc.congr fun n => ?_,hi⟩⟩
     exact ⟨fun h => h.elim id fun h => absurd hm h.2.1,.inl⟩
    | true =>
     have hm:=j1.1 rfl
     obtain ⟨rfl,b1,b2⟩:=j2 hm
     simp only [bne_self_eq_false,YH,Y12,cond_false];simp only at a1 a2 b1 b2;rw [ht.eq l m a1 a2 b1 b2];simp only [Y0]
     rcases Z9H (tv l m) with ⟨f1,f2⟩ | ⟨f1,f2⟩
     ·rw [f2];simp only [beq_self_eq_true,cond_true,Y0];refine ⟨0,_,rfl,fun _ => ⟨hc.put fun n => ?_,?_⟩⟩
      ·exact ⟨fun h => h.elim .inl fun h => .inr h.2.2,fun h => h.elim .inl fun h => .inr ⟨hl,hm,h⟩⟩
      ·unfold putB;split
       ·exact f1
       ·exact hi
     ·rw [f2];exact ⟨10,_,rfl,fun h => by cases h⟩
   ·have:(e' != 0) = true:=by simpa using he'
    simp only [bne_self_eq_false,YH,Y12,cond_false];rw [this,Bool.true_or,cond_true];exact ⟨e',c,rfl,fun h => absurd h he'⟩
 ·have:(e != 0) = true:=by simpa using he
  rw [this,Bool.true_or,cond_true];exact ⟨e,c,rfl,fun h => absurd h he⟩
def TwoP (g:Form) (tv:List Span→List Span→Int) (k n:Int):Prop:=∃ i,Z1 g i ≠ []∧Z1 g (i + k) ≠ []∧n = tv (Z1 g i) (Z1 g (i + k))
theorem over_free {g:Form} (h:Fit g) {tv:List Span→List Span→Int} (hsh:∀ l m d,l ≠ []→m ≠ []→tv (l.map (ZR d)) (m.map (ZR d)) = tv l m) {k n:Int} :
  TwoP g tv k n ↔ (∃ i,0≤i∧i < g.Count∧csz g i ≠ []∧csz g (i + k) ≠ []∧n = tv (csz g i) (csz g (i + k)))∨∃ i,(ZT g i∨ZT g (i + k))∧Z1 g i ≠ []∧Z1 g (i + k) ≠ []∧n = tv (Z1 g i) (Z1 g (i + k)):=by
 have hc:=h.shape.count
 constructor
 ·rintro ⟨i,h1,h2,h3⟩
  by_cases ho:ZT g i∨ZT g (i + k)
  ·exact .inr ⟨i,ho,h1,h2,h3⟩
  ·rw [not_or] at ho;have h0:0 < g.Count:=by
    by_cases h0:0 < g.Count
    ·exact h0
    ·exact absurd (Z0g ho.1 (by omega)) h1
   rw [Z2k ho.1,Z2k ho.2,Z37 h0] at *
   obtain ⟨s,q,s0,s1,rfl,es⟩:=Z1F h0 i
   have ej:cs g (s + g.Count * q + k) = (cs g (s + k)).map (ZR (q * g.Period)):=by
    have:=Z2J h0 (s + k) q
    rwa [show s + k + g.Count * q = s + g.Count * q + k by omega] at this
   rw [es] at h1;rw [ej] at h2;have n1:cs g s ≠ []:=by simpa using h1
   have n2:cs g (s + k) ≠ []:=by simpa using h2
   rw [es,ej,hsh _ _ _ n1 n2] at h3;exact .inl ⟨s,s0,s1,n1,n2,h3⟩
 ·rintro (⟨i,i0,i1,h1,h2,h3⟩ | ⟨i,_,h1,h2,h3⟩)
  ·have h0:0 < g.Count:=by omega
   rw [Z37 h0] at h1 h2 h3;obtain ⟨t,ht,hn⟩:=pigeon (g.Odd.map (·.Index) ++ g.Odd.map (fun x => x.Index - k)) (fun t => i + g.Count * t) (fun a b hab => by
    have h4:g.Count * (a:Int) = g.Count * b:=by omega
    have:=Y0C (by omega) h4
    omega)
   rw [Yq,not_or] at hn;have o1:¬ ZT g (i + g.Count * t):=by
    rintro ⟨x,hx,e⟩;exact hn.1 (List.mem_map.2 ⟨x,hx,e⟩)
   have o2:¬ ZT g (i + g.Count * t + k):=by
    rintro ⟨x,hx,e⟩;exact hn.2 (List.mem_map.2 ⟨x,hx,by rw [e];omega⟩)
   have ej:cs g (i + g.Count * t + k) = (cs g (i + k)).map (ZR (t * g.Period)):=by
    have:=Z2J h0 (i + k) t
    rwa [show i + k + g.Count * t = i + g.Count * t + k by omega] at this
   refine ⟨i + g.Count * t,?_⟩;rw [Z0L h0 o1,Z0L h0 o2,Z2J h0,ej];refine ⟨by simpa using h1,by simpa using h2,?_⟩
   rw [hsh _ _ _ h1 h2,h3]
  ·exact ⟨i,h1,h2,h3⟩
def tvL (l m:List Span):Int:=lstT l - fstT m
def tvM (l m:List Span):Int:=lstT m - fstT l
theorem tells_L:Tells (fun z0 z1 => some (Z2b z0 z1)) tvL:=by
 refine ⟨fun l m a1 a2 b1 b2 => ?_,fun l m d h1 h2 => ?_⟩
 ·unfold Z2b tvL;rw [sub_fit a2 b1]
 ·unfold tvL;rw [(ZZ d h1).1,(ZZ d h2).2];omega
theorem tells_M:Tells (fun z0 z1 => some (Z2p z0 z1)) tvM:=by
 refine ⟨fun l m a1 a2 b1 b2 => ?_,fun l m d h1 h2 => ?_⟩
 ·unfold Z2p tvM;rw [sub_fit b2 a1]
 ·unfold tvM;rw [(ZZ d h2).1,(ZZ d h1).2];omega
theorem two_congr {f g:Form} (h:Z1 g = Z1 f) {tv:List Span→List Span→Int} {k n:Int}:TwoP g tv k n ↔ TwoP f tv k n:=by unfold TwoP;rw [h]
theorem ZBK {k:Int} (hk:ZF k):Z0r k = true:=by unfold Z0r;unfold ZF at hk;simp;omega
theorem Best.uniq {S:Int→Prop} {b c:Int × Bool} (h:Best S b) (h':Best S c):b = c:=by
 obtain ⟨n,b⟩:=b
 obtain ⟨m,c⟩:=c
 cases b <;> cases c
 ·have e1:=(h.no rfl).1
  have e2:=(h'.no rfl).1
  simp only at e1 e2;rw [e1,e2]
 ·exact absurd (h'.yes rfl).1 ((h.no rfl).2 _)
 ·exact absurd (h.yes rfl).1 ((h'.no rfl).2 _)
 ·have e1:=(h.yes rfl).2 _ (h'.yes rfl).1
  have e2:=(h'.yes rfl).2 _ (h.yes rfl).1
  simp only at e1 e2;have:n = m:=by omega
  rw [this]
end Go.Dn

namespace Go.Dn
open Go
def insG:Bool→List Int→Int→List Int
 | p,[],x => if p then [] else [x]
 | p,y :: l,x => if y = x then y :: insG true l x else if p then y :: insG true l x else if x < y then x :: y :: insG true l x else y :: insG false l x
theorem Z3o:∀ (l:List Int) (x:Int),insG true l x = l
 | [],x => rfl
 | y :: l,x => by simp [insG,Z3o l x]
theorem insG_cons (p:Bool) (y:Int) (l:List Int) (x:Int):insG p (y :: l) x = if y = x then y :: l else if p then y :: l else if x < y then x :: y :: l else y :: insG false l x:=by
 rw [insG,Z3o]
theorem Z6Y:∀ (l:List Int) (x z:Int),z ∈ insG false l x ↔ z ∈ l∨z = x
 | [],x,z => by simp [insG]
 | y :: l,x,z => by
  unfold insG;rw [Z3o]
  split
  ·rename_i h;subst h
   constructor
   ·intro h1;exact .inl h1
   ·intro h1
    rcases h1 with h1 | h1
    ·exact h1
    ·rw [h1];exact Yc
  ·simp only [Y6,if_false]
   split
   ·simp only [Y0s]
    constructor
    ·rintro (h | h | h)
     ·exact .inr h
     ·exact .inl (.inl h)
     ·exact .inl (.inr h)
    ·rintro ((h | h) | h)
     ·exact .inr (.inl h)
     ·exact .inr (.inr h)
     ·exact .inl h
   ·simp [Z6Y l x z,or_assoc]
theorem Z4h:∀ (l:List Int) (x:Int),l.Pairwise (· < ·)→(insG false l x).Pairwise (· < ·)
 | [],x,_ => by simp [insG]
 | y :: l,x,h => by
  unfold insG;rw [Z3o];rw [List.pairwise_cons] at h
  split
  ·exact List.pairwise_cons.2 h
  ·rename_i hne;simp only [Y6,if_false]
   split
   ·rename_i hlt;refine List.pairwise_cons.2 ⟨?_,List.pairwise_cons.2 h⟩;intro z hz
    rcases List.mem_cons.1 hz with hz | hz
    ·omega
    ·have:=h.1 z hz;omega
   ·refine List.pairwise_cons.2 ⟨?_,Z4h l x h.2⟩;intro z hz
    rcases (Z6Y l x z).1 hz with hz | hz
    ·exact h.1 z hz
    ·omega
theorem Z85:∀ (p:Bool) (l:List Int) (x:Int),(insG p l x).length≤l.length + 1
 | p,[],x => by unfold insG;split <;> simp
 | p,y :: l,x => by
  have h1:=Z85 false l x
  unfold insG;rw [Z3o]
  split
  ·simp
  ·split
   ·simp
   ·split <;> simp <;> omega
theorem ZAL {l:List Int} (hl:l.length≤1000000000) (x:Int):Zo l x = some (insG false l x):=by
 have hr:=Z3a
 unfold Zo
 have key:=Zv (step:=Zo.s0 l x) (I:=fun s => ∃ (k:Nat),s.2.1 = (k:Int)∧k≤l.length∧s.2.2 ++ insG s.1 (l.drop k) x = insG false l x∧s.2.2.length≤k + (if s.1 then 1 else 0)) (fun s => l.length - s.2.1.toNat)
  (fun r => (r.1 = true∧r.2 = insG false l x)∨(r.1 = false∧r.2 ++ [x] = insG false l x∧r.2.length≤l.length + 1)) ?_ (false,0,[]) ⟨0,rfl,YN _,rfl,by simp⟩
 ·obtain ⟨⟨p,out⟩,e,h⟩:=key
  rw [e,Y0]
  rcases h with ⟨h1,h2⟩ | ⟨h1,h2,h3⟩
  ·simp only at h1 h2;subst h1;simp only [YH,cond_false,Y0,h2]
  ·simp only at h1 h2 h3;subst h1;simp only [Yz,cond_true];rw [app?_ok (by simp;omega)]
   simp only [Y0,h2]
 ·rintro ⟨p,i,out⟩ ⟨k,hk,hkl,hinv,hlen⟩;simp only at hk hinv hlen;subst hk;unfold Zo.s0;simp only [];have hw:w64 ((k:Int) + 1) = ((k + 1:Nat):Int):=by rw [Z9 (by omega)];push_cast;rfl
  by_cases hlt:k < l.length
  ·rw [ZK (by omega),cond_true,at?_nat hlt]
   have hd:l.drop k = l[k] :: l.drop (k + 1):=List.drop_eq_getElem_cons hlt
   rw [hd] at hinv;generalize l[k] = y at hinv;simp only [Y0];rw [insG_cons] at hinv;have hp01:(if p = true then 1 else 0:Nat)≤1:=by split <;> omega
   have hmeas:∀ z:Bool × List Int,l.length - ((z.1,w64 ((k:Int) + 1),z.2):Bool × Int × List Int).2.1.toNat < l.length - ((p,(k:Int),out):Bool × Int × List Int).2.1.toNat:=by
    intro z;simp only [hw,Yo];omega
   by_cases hyx:y = x
   ·rw [if_pos hyx] at hinv;rw [Z84 hyx,cond_true];simp only [Y0,YH,cond_false];rw [app?_ok (by simp;omega)]
    refine .inl ⟨_,rfl,⟨k + 1,hw,hlt,?_,by simp;omega⟩,hmeas (true,_)⟩
    simp only [Y0];rw [Z3o,Yp];exact hinv
   ·rw [if_neg hyx] at hinv;rw [Z4i hyx,cond_false];cases p with
    | true =>
     rw [if_pos rfl] at hinv;simp only [Y0,YH,cond_false];rw [app?_ok (by simp;omega)]
     refine .inl ⟨_,rfl,⟨k + 1,hw,hlt,?_,by simp;omega⟩,hmeas (true,_)⟩
     simp only [Y0];rw [Z3o,Yp];exact hinv
    | false =>
     rw [if_neg (by simp)] at hinv
     simp only [Y0,Yz,cond_true]
     by_cases hlt2:x < y
     ·rw [if_pos hlt2] at hinv;rw [ZK hlt2,cond_true,app?_ok (by simp;omega)]
      simp only [Y0];rw [app?_ok (by simp;omega)]
      refine .inl ⟨_,rfl,⟨k + 1,hw,hlt,?_,?_⟩,hmeas (true,_)⟩
      ·simp only [Y0];rw [Z3o,Yp,Yp];exact hinv
      ·simp only [Y0,Yk,List.length_singleton];simp only [Y6,if_false] at hlen;simp;omega
     ·rw [if_neg hlt2] at hinv;simp only [Y6,if_false] at hlen;rw [ZJ hlt2,cond_false];simp only [Y0];rw [app?_ok (by simp;omega)]
      refine .inl ⟨_,rfl,⟨k + 1,hw,hlt,?_,by simp;omega⟩,hmeas (false,_)⟩
      simp only [Y0];rw [Yp];exact hinv
  ·have:k = l.length:=by omega
   subst this;rw [ZJ (by omega),cond_false]
   refine .inr ⟨_,rfl,?_⟩;simp only [List.drop_length] at hinv;cases p with
   | true => exact .inl ⟨rfl,by simpa [insG] using hinv⟩
   | false => exact .inr ⟨rfl,by simpa [insG] using hinv,by simp only [Y6,if_false] at hlen;show out.length≤_;omega⟩
theorem ZBR {l:List Int} (hl:l.length≤1000000000) (x:Int):Z0h l x = some (insG false l x):=ZAL hl x
end Go.Dn

namespace Go.Dn
open Go
def hasT (l:List Span) (t:Int):Prop:=∃ u ∈ l,u.From≤t∧t≤u.To
def midT (l:List Span):Prop:=∀ u ∈ l,-4611686018427387904≤u.From∧u.From≤4611686018427387904∧-4611686018427387904≤u.To∧u.To≤4611686018427387904
theorem Z6p {l:List Span} (hl:l.length≤1000000000) (t:Int):(Z0E l t = some true∧hasT l t)∨(Z0E l t = some false∧¬ hasT l t):=by
 unfold Z0E
 have key:=Z2x (l:=l) (step:=Z0E.s0 l t) (good:=fun _ u => ¬ (u.From≤t∧t≤u.To)) (yes:=.go ()) (no:=.ret true) ?_ ?_
 ·rcases key with ⟨h1,h2⟩ | ⟨h1,h2⟩
  ·rw [h1];refine .inr ⟨rfl,?_⟩;rintro ⟨u,hu,hh⟩;obtain ⟨k,hk⟩:=YB hu
   exact h2 k u hk hh
  ·rw [h1];refine .inl ⟨rfl,Classical.byContradiction fun hn => h2 fun k u hk hh => hn ⟨u,Y7 hk,hh⟩⟩
 ·intro k u hk _;obtain ⟨hlt,rfl⟩:=List.getElem?_eq_some_iff.1 hk
  unfold Z0E.s0;rw [ZK (by omega),cond_true,at?_nat hlt]
  generalize l[k] = u;simp only [Y0];rw [Z9 (by omega)]
  by_cases h1:u.From≤t
  ·rw [ZK h1,cond_true,Y0]
   by_cases h2:t≤u.To
   ·rw [ZK h2,cond_true];exact .inr ⟨rfl,fun h => h ⟨h1,h2⟩⟩
   ·rw [ZJ h2,cond_false];exact .inl ⟨rfl,fun h => h2 h.2⟩
  ·rw [ZJ h1,cond_false,Y0,cond_false];exact .inl ⟨rfl,fun h => h1 h.1⟩
 ·unfold Z0E.s0;rw [ZJ (by omega),cond_false]
def isPl (l:List Span) (z:Int):Prop:=∃ u ∈ l,z = u.From∨z = u.To + 1
theorem ZBI {a:List Span} (ha:a.length≤100000000) (hm:midT a) {P0:List Int} (h0:P0.Pairwise (· < ·)) (hl:P0.length≤300000000) :
  ∃ P,loopO (Zf.s0 a) (P0,0) = some P∧P.Pairwise (· < ·)∧(∀ z,z ∈ P ↔ z ∈ P0∨isPl a z)∧P.length≤P0.length + 2 * a.length:=by
 have key:=Zv (step:=Zf.s0 a) (I:=fun s => ∃ (k:Nat) (P:List Int),s = (P,(k:Int))∧k≤a.length∧P.Pairwise (· < ·)∧(∀ z,z ∈ P ↔ z ∈ P0∨isPl (a.take k) z)∧P.length≤P0.length + 2 * k) (fun s => a.length - s.2.toNat)
  (fun P => P.Pairwise (· < ·)∧(∀ z,z ∈ P ↔ z ∈ P0∨isPl a z)∧P.length≤P0.length + 2 * a.length) ?_ (P0,0) ⟨0,P0,rfl,YN _,h0,fun z => by simp [isPl],by omega⟩
 ·exact key
 ·rintro _ ⟨k,P,rfl,hk,hs,hmem,hlen⟩;unfold Zf.s0;simp only []
  by_cases hlt:k < a.length
  ·rw [ZK (by omega),cond_true,at?_nat hlt]
   have hb:=hm _ (YF hlt)
   have htk:a.take (k + 1) = a.take k ++ [a[k]]:=by rw [List.take_add_one,Y2 hlt];rfl
   simp only [Y0];rw [Z9 (x:=a[k].To + 1) (by omega)]
   have l1:=Z85 false P a[k].From
   have l2:=Z85 false (insG false P a[k].From) (a[k].To + 1)
   rw [ZAL (by omega),Y0,ZAL (by omega),Y0]
   have hw:w64 ((k:Int) + 1) = ((k + 1:Nat):Int):=by rw [Z9 (by omega)];push_cast;rfl
   rw [hw];refine .inl ⟨_,rfl,⟨k + 1,_,rfl,hlt,Z4h _ _ (Z4h _ _ hs),fun z => ?_,by omega⟩,by simp only [Yo];omega⟩
   rw [Z6Y,Z6Y,hmem,htk];unfold isPl
   constructor
   ·rintro (((h | ⟨u,hu,h⟩) | h) | h)
    ·exact .inl h
    ·exact .inr ⟨u,YX _ hu,h⟩
    ·exact .inr ⟨a[k],YS _ (List.mem_singleton.2 rfl),.inl h⟩
    ·exact .inr ⟨a[k],YS _ (List.mem_singleton.2 rfl),.inr h⟩
   ·rintro (h | ⟨u,hu,h⟩)
    ·exact .inl (.inl (.inl h))
    ·rcases List.mem_append.1 hu with hu | hu
     ·exact .inl (.inl (.inr ⟨u,hu,h⟩))
     ·rw [List.mem_singleton.1 hu] at h
      rcases h with h | h
      ·exact .inl (.inr h)
      ·exact .inr h
  ·have:k = a.length:=by omega
   subst this;rw [ZJ (by omega),cond_false]
   rw [YO] at hmem;exact .inr ⟨P,rfl,hs,hmem,hlen⟩
theorem places_eq {a b:List Span} (ha:a.length≤100000000) (hb:b.length≤100000000) (ma:midT a) (mb:midT b) :
  ∃ P,Zf a b = some P∧P.Pairwise (· < ·)∧(∀ z,z ∈ P ↔ isPl a z∨isPl b z)∧P.length≤2 * a.length + 2 * b.length:=by
 obtain ⟨P,e1,s1,m1,l1⟩:=ZBI ha ma (P0:=[]) List.Pairwise.nil (by simp)
 obtain ⟨Q,e2,s2,m2,l2⟩:=ZBI hb mb s1 (by simp at l1;omega)
 have e2':loopO (Zf.s1 b) (P,0) = some Q:=e2
 unfold Zf
 rw [e1,Y0,e2',Y0]
 refine ⟨Q,rfl,s2,fun z => ?_,by simp at l1;omega⟩
 rw [m2,m1];simp
theorem set2_eq {a b:List Span} (ha:a.length≤100000000) (hb:b.length≤100000000) (ma:midT a) (mb:midT b) :
  ∃ r,Z0o 2 a b = some r∧(r ≠ [] ↔ ∃ t,hasT a t∧hasT b t):=by
 obtain ⟨P,e1,s1,m1,l1⟩:=places_eq ha hb ma mb
 have hr:=Z3a
 unfold Z0o
 rw [e1,Y0]
 have key:=Zv (step:=Z0o.s0 2 a b P) (I:=fun s => ∃ (k:Nat),s.1 = (k:Int)∧(k≤P.length)∧(s.2 ≠ [] ↔ ∃ j z,j < k∧j + 1 < P.length∧P[j]? = some z∧hasT a z∧hasT b z)∧s.2.length≤k) (fun s => P.length - s.1.toNat)
  (fun r => (r ≠ [] ↔ ∃ (j:Nat) (z:Int),j + 1 < P.length∧P[j]? = some z∧hasT a z∧hasT b z)) ?_ (0,[]) ⟨0,rfl,YN _,by simp,by simp⟩
 ·obtain ⟨r,e,h⟩:=key
  rw [e,Y0];refine ⟨r,rfl,h.trans ⟨fun ⟨j,z,_,_,h1,h2⟩ => ⟨z,h1,h2⟩,?_⟩⟩
  rintro ⟨t,⟨u,hu,hu1,hu2⟩,⟨v,hv,hv1,hv2⟩⟩;have hp:max u.From v.From ∈ P:=by
   rw [m1]
   rcases Int.le_total u.From v.From with hh | hh
   ·rw [Int.max_eq_right hh];exact .inr ⟨v,hv,.inl rfl⟩
   ·rw [Int.max_eq_left hh];exact .inl ⟨u,hu,.inl rfl⟩
  obtain ⟨j,hj⟩:=YB hp
  have hq:u.To + 1 ∈ P:=(m1 _).2 (.inl ⟨u,hu,.inr rfl⟩)
  obtain ⟨i,hi⟩:=YB hq
  obtain ⟨hjl,ej⟩:=List.getElem?_eq_some_iff.1 hj
  obtain ⟨hil,ei⟩:=List.getElem?_eq_some_iff.1 hi
  have hji:j < i:=by
   rcases Y0g j i with hh | hh | hh
   ·exact hh
   ·subst hh;rw [ej] at ei;omega
   ·have:=List.pairwise_iff_getElem.1 s1 i j hil hjl hh
    omega
  exact ⟨j,_,by omega,hj,⟨u,hu,by omega,by omega⟩,⟨v,hv,by omega,by omega⟩⟩
 ·rintro ⟨s,out⟩ ⟨k,hk,hkl,hinv,hlen⟩;simp only at hk hinv hlen;subst hk;unfold Z0o.s0;simp only [];have hw:w64 ((k:Int) + 1) = ((k + 1:Nat):Int):=by rw [Z9 (by omega)];push_cast;rfl
  rw [hw]
  by_cases hlt:k + 1 < P.length
  ·have hkl:k < P.length:=by omega
   have hPk:P[k]? = some P[k]:=Y2 hkl
   rw [ZK (by omega),cond_true,at?_nat hkl,at?_nat hlt]
   simp only [Y0];have hmeas:∀ X:List Span,P.length - ((((k + 1:Nat):Int),X):Int × List Span).1.toNat < P.length - (((k:Int),out):Int × List Span).1.toNat:=by
    intro X;simp only [Yo];omega
   have fin:∀ X:List Span,(X ≠ [] ↔ out ≠ []∨(hasT a P[k]∧hasT b P[k]))→X.length≤k + 1 →
     (∃ k1:Nat,((((k + 1:Nat):Int),X):Int × List Span).1 = (k1:Int)∧k1≤P.length∧(X ≠ [] ↔ ∃ j z,j < k1∧j + 1 < P.length∧P[j]? = some z∧hasT a z∧hasT b z)∧X.length≤k1):=by
    intro X hX hXl;refine ⟨k + 1,rfl,hkl,?_,hXl⟩;rw [hX,hinv]
    constructor
    ·rintro (⟨j,z,h1,h2⟩ | h)
     ·exact ⟨j,z,by omega,h2⟩
     ·exact ⟨k,_,by omega,hlt,hPk,h⟩
    ·rintro ⟨j,z,h1,h2,h3,h4⟩
     by_cases hjk:j = k
     ·subst hjk;rw [hPk] at h3;cases Option.some.inj h3;exact .inr h4
     ·exact .inl ⟨j,z,by omega,h2,h3,h4⟩
   have hsel:∀ A B:Bool,Z4U 2 A B = (A && B):=fun A B => rfl
   have case1:¬ (hasT a P[k]∧hasT b P[k])→(∃ k1:Nat,((((k + 1:Nat):Int),out):Int × List Span).1 = (k1:Int)∧k1≤P.length∧(out ≠ [] ↔ ∃ j z,j < k1∧j + 1 < P.length∧P[j]? = some z∧hasT a z∧hasT b z)∧out.length≤k1) :=
    fun hn => fin out ⟨fun h => .inl h,fun h => h.elim id fun h => absurd h hn⟩ (by omega)
   rcases Z6p (l:=a) (by omega) P[k] with ⟨ea,hA⟩ | ⟨ea,hA⟩
   ·rcases Z6p (l:=b) (by omega) P[k] with ⟨eb,hB⟩ | ⟨eb,hB⟩
    ·rw [ea,eb];simp only [Y0,hsel,Y0Q,YH,cond_false];cases out with
     | nil =>
      simp only [Yd];rw [ZJ (by decide),cond_false,Y0,cond_false,app?_ok (by simp;omega)]
      exact .inl ⟨_,rfl,fin _ (by simp [hA,hB]) (by simp),hmeas _⟩
     | cons o out =>
      have hlast:((o :: out).length:Int) - 1 = (out.length:Int):=by simp
      have hlw:w64 (((o :: out).length:Int) - 1) = (out.length:Int):=by
       rw [hlast,Z9];simp at hlen;omega
      rw [ZK (by simp),cond_true,hlw,at?_nat (by simp)]
      simp only [Y0];cases hcc:(((o :: out)[out.length]'(by simp)).To == w64 (P[k] - 1)) with
      | true =>
       rw [cond_true];exact .inl ⟨_,rfl,fin _ (by simp [hA,hB]) (by simp at hlen ⊢;omega),hmeas _⟩
      | false =>
       rw [cond_false,app?_ok (by simp at hlen ⊢;omega)]
       exact .inl ⟨_,rfl,fin _ (by simp [hA,hB]) (by simp at hlen ⊢;omega),hmeas _⟩
    ·rw [ea,eb];exact .inl ⟨_,rfl,case1 fun h => hB h.2,hmeas _⟩
   ·rcases Z6p (l:=b) (by omega) P[k] with ⟨eb,hB⟩ | ⟨eb,hB⟩
    ·rw [ea,eb];exact .inl ⟨_,rfl,case1 fun h => hA h.1,hmeas _⟩
    ·rw [ea,eb];exact .inl ⟨_,rfl,case1 fun h => hA h.1,hmeas _⟩
  ·rw [ZJ (by omega),cond_false]
   refine .inr ⟨_,rfl,hinv.trans ⟨fun ⟨j,z,_,h⟩ => ⟨j,z,h⟩,fun ⟨j,z,h1,h⟩ => ⟨j,z,by omega,h1,h⟩⟩⟩
end Go.Dn

namespace Go.Dn
open Go
abbrev Pl:=epactref22_Place
structure SmallPl (l:List Pl):Prop where
 len:l.length≤1000000000
 val:∀ a ∈ l,(-1000000000≤a.Index∧a.Index≤1000000000)∧(-1000000000≤a.First∧a.First≤1000000000)∧(-1000000000≤a.Last∧a.Last≤1000000000)
def IncPl (l:List Pl):Prop:=l.Pairwise (fun a b => a.Index < b.Index)
def Z3I (S:Int→Prop) (n:Int) (b:Bool):Prop:=((b = true→S n)∧(b = false→n = 0))∧∀ m,S m→b = true∧m≤n
def Z3J (S:Int→Prop) (n:Int) (b:Bool):Prop:=((b = true→S n)∧(b = false→n = 0))∧∀ m,S m→b = true∧n≤m
theorem Z3I.none {S:Int→Prop} (h:∀ m,¬ S m):Z3I S 0 false:=⟨⟨fun h => (by cases h),fun _ => rfl⟩,fun m hm => absurd hm (h m)⟩
theorem Z3J.none {S:Int→Prop} (h:∀ m,¬ S m):Z3J S 0 false:=⟨⟨fun h => (by cases h),fun _ => rfl⟩,fun m hm => absurd hm (h m)⟩
theorem Z3I.same {S S':Int→Prop} {n:Int} {b:Bool} (h:Z3I S n b) (hs:∀ m,S' m ↔ S m):Z3I S' n b:=⟨⟨fun hb => (hs n).2 (h.1.1 hb),h.1.2⟩,fun m hm => h.2 m ((hs m).1 hm)⟩
theorem Z3J.same {S S':Int→Prop} {n:Int} {b:Bool} (h:Z3J S n b) (hs:∀ m,S' m ↔ S m):Z3J S' n b:=⟨⟨fun hb => (hs n).2 (h.1.1 hb),h.1.2⟩,fun m hm => h.2 m ((hs m).1 hm)⟩
theorem Z3I.put {S S':Int→Prop} {n k:Int} {b:Bool} (h:Z3I S n b) (hs:∀ m,S' m ↔ S m∨m = k):((b = false∨n < k)→Z3I S' k true)∧(¬ (b = false∨n < k)→Z3I S' n b):=by
 refine ⟨fun hc => ⟨⟨fun _ => (hs k).2 (.inr rfl),fun h => (by cases h)⟩,fun m hm => ⟨rfl,?_⟩⟩,fun hc => ⟨⟨fun hb => (hs n).2 (.inl (h.1.1 hb)),h.1.2⟩,fun m hm => ?_⟩⟩
 ·rcases (hs m).1 hm with h1 | h1
  ·have:=h.2 m h1
   rcases hc with hc | hc
   ·rw [hc] at this;cases this.1
   ·omega
  ·omega
 ·have hb:b = true:=by cases b;exact absurd (.inl rfl) hc;rfl
  rcases (hs m).1 hm with h1 | h1
  ·exact h.2 m h1
  ·exact ⟨hb,by
    have:¬ n < k:=fun hh => hc (.inr hh)
    omega⟩
theorem Z3J.put {S S':Int→Prop} {n k:Int} {b:Bool} (h:Z3J S n b) (hs:∀ m,S' m ↔ S m∨m = k):((b = false∨k < n)→Z3J S' k true)∧(¬ (b = false∨k < n)→Z3J S' n b):=by
 refine ⟨fun hc => ⟨⟨fun _ => (hs k).2 (.inr rfl),fun h => (by cases h)⟩,fun m hm => ⟨rfl,?_⟩⟩,fun hc => ⟨⟨fun hb => (hs n).2 (.inl (h.1.1 hb)),h.1.2⟩,fun m hm => ?_⟩⟩
 ·rcases (hs m).1 hm with h1 | h1
  ·have:=h.2 m h1
   rcases hc with hc | hc
   ·rw [hc] at this;cases this.1
   ·omega
  ·omega
 ·have hb:b = true:=by cases b;exact absurd (.inl rfl) hc;rfl
  rcases (hs m).1 hm with h1 | h1
  ·exact h.2 m h1
  ·exact ⟨hb,by
    have:¬ k < n:=fun hh => hc (.inr hh)
    omega⟩
theorem Z7j {l:List Pl} {k:Nat} (h:k < l.length) (b:Pl):b ∈ l.take (k + 1) ↔ b ∈ l.take k∨b = l[k]:=by
 rw [List.take_add_one,Y2 h,Yq]
 show _∨b ∈ [l[k]] ↔ _
 rw [YK]
def DownP (l m:List Pl) (d n:Int):Prop:=∃ a ∈ l,∃ b ∈ m,-800≤a.First∧a.First≤800∧b.First - a.Last≤d∧n = b.Index - a.Index
def UpP (l m:List Pl) (d n:Int):Prop:=∃ a ∈ l,∃ b ∈ m,-800≤a.First∧a.First≤800∧d≤b.Last - a.First∧n = b.Index - a.Index
theorem down_s1 {l:List Pl} (hl:SmallPl l) {d:Int} {i:Nat} (hi:i < l.length) {s1:Int × Bool × Int} (hs1:s1.2.2 = (i:Int)) {S:Int→Prop} {k0:Int} {b0:Bool} (h0:Z3I S k0 b0) :
  ∃ n b,loopO (Zk.s1 l d s1) (k0,b0,0) = some (n,b)∧Z3I (fun m => S m∨∃ b ∈ l,b.First - l[i].Last≤d∧m = b.Index - l[i].Index) n b:=by
 have key:=Zv (step:=Zk.s1 l d s1) (I:=fun s => ∃ (k:Nat),s.2.2 = (k:Int)∧k≤l.length∧Z3I (fun m => S m∨∃ b ∈ l.take k,b.First - l[i].Last≤d∧m = b.Index - l[i].Index) s.1 s.2.1) (fun s => l.length - s.2.2.toNat)
  (fun r => Z3I (fun m => S m∨∃ b ∈ l,b.First - l[i].Last≤d∧m = b.Index - l[i].Index) r.1 r.2) ?_ (k0,b0,0) ⟨0,rfl,YN _,h0.same (by simp)⟩
 ·obtain ⟨r,e,h⟩:=key
  exact ⟨r.1,r.2,e,h⟩
 ·rintro ⟨n,b,m⟩ ⟨k,hk,hkl,hM⟩;simp only at hk hM;subst hk;unfold Zk.s1;simp only [hs1];have hlen:=hl.len
  by_cases hlt:k < l.length
  ·have hv1:=hl.val _ (YF hlt)
   have hv2:=hl.val _ (YF hi)
   rw [ZK (by omega),cond_true,at?_nat hlt,at?_nat hi]
   have htk:=Z7j hlt
   generalize l[k] = x at hv1 htk;generalize l[i] = a at hv2 hM;simp only [Y0];rw [Z9 (x:=x.First - a.Last) (by omega),Z9 (x:=x.Index - a.Index) (by omega),Z9 (x:=(k:Int) + 1) (by omega)]
   have hmeas:∀ (z:Int × Bool),l.length - ((z.1,z.2,(k:Int) + 1):Int × Bool × Int).2.2.toNat < l.length - ((n,b,(k:Int)):Int × Bool × Int).2.2.toNat:=by
    intro z;simp only [];omega
   by_cases hc:x.First - a.Last≤d
   ·have hset:∀ m,(S m∨∃ b ∈ l.take (k + 1),b.First - a.Last≤d∧m = b.Index - a.Index) ↔ (S m∨∃ b ∈ l.take k,b.First - a.Last≤d∧m = b.Index - a.Index)∨m = x.Index - a.Index:=by
     intro m
     constructor
     ·rintro (h | ⟨b,hb,h⟩)
      ·exact .inl (.inl h)
      ·rcases (htk b).1 hb with hb | hb
       ·exact .inl (.inr ⟨b,hb,h⟩)
       ·subst hb;exact .inr h.2
     ·rintro ((h | ⟨b,hb,h⟩) | h)
      ·exact .inl h
      ·exact .inr ⟨b,(htk b).2 (.inl hb),h⟩
      ·exact .inr ⟨x,(htk x).2 (.inr rfl),hc,h⟩
    have hp:=hM.put hset
    rw [ZK hc,cond_true];have hcond:((bif (!b) then some true else some (decide (x.Index - a.Index > n))):Option Bool) = some (decide (b = false∨n < x.Index - a.Index)):=by
     cases b <;> simp
    rw [hcond];simp only [Y0]
    by_cases hq:b = false∨n < x.Index - a.Index
    ·rw [ZK hq,cond_true];exact .inl ⟨_,rfl,⟨k + 1,by push_cast;rfl,hlt,hp.1 hq⟩,hmeas (_,true)⟩
    ·rw [ZJ hq,cond_false];exact .inl ⟨_,rfl,⟨k + 1,by push_cast;rfl,hlt,hp.2 hq⟩,hmeas (n,b)⟩
   ·rw [ZJ hc,cond_false];simp only [Y0,cond_false];refine .inl ⟨_,rfl,⟨k + 1,by push_cast;rfl,hlt,hM.same fun m => ?_⟩,hmeas (n,b)⟩
    constructor
    ·rintro (h | ⟨b,hb,h⟩)
     ·exact .inl h
     ·rcases (htk b).1 hb with hb | hb
      ·exact .inr ⟨b,hb,h⟩
      ·subst hb;exact absurd h.1 hc
    ·rintro (h | ⟨b,hb,h⟩)
     ·exact .inl h
     ·exact .inr ⟨b,(htk b).2 (.inl hb),h⟩
  ·have:k = l.length:=by omega
   subst this;rw [ZJ (by omega),cond_false]
   rw [YO] at hM;exact .inr ⟨_,rfl,hM⟩
theorem ref_Down_eq {l:List Pl} (hl:SmallPl l) (d:Int):∃ n b,Zk l d = some (n,b)∧Z3I (DownP l l d) n b:=by
 unfold Zk
 have key:=Zv (step:=Zk.s0 l d) (I:=fun s => ∃ (k:Nat),s.2.2 = (k:Int)∧k≤l.length∧Z3I (DownP (l.take k) l d) s.1 s.2.1) (fun s => l.length - s.2.2.toNat)
  (fun r => Z3I (DownP l l d) r.1 r.2) ?_ (0,false,0) ⟨0,rfl,YN _,Z3I.none (by simp [DownP])⟩
 ·obtain ⟨r,e,h⟩:=key
  rw [e];exact ⟨r.1,r.2,rfl,h⟩
 ·rintro ⟨n,b,m⟩ ⟨k,hk,hkl,hM⟩;simp only at hk hM;subst hk;unfold Zk.s0;simp only [];have hlen:=hl.len
  by_cases hlt:k < l.length
  ·have htk:=Z7j hlt
   rw [ZK (by omega),cond_true,at?_nat hlt]
   simp only [Y0];rw [Z9 (x:=(k:Int) + 1) (by omega)]
   have hmeas:∀ (z:Int × Bool),l.length - ((z.1,z.2,(k:Int) + 1):Int × Bool × Int).2.2.toNat < l.length - ((n,b,(k:Int)):Int × Bool × Int).2.2.toNat:=by
    intro z;simp only [];omega
   have hcond:((bif decide (l[k].First < -800) then some true else some (decide (l[k].First > 800))):Option Bool) = some (decide (¬ (-800≤l[k].First∧l[k].First≤800))):=by
    by_cases h1:l[k].First < -800
    ·rw [ZK h1,cond_true,ZK (by omega)]
    ·rw [ZJ h1,cond_false]
     by_cases h2:l[k].First > 800
     ·rw [ZK h2,ZK (by omega)]
     ·rw [ZJ h2,ZJ (by omega)]
   rw [hcond];simp only [Y0]
   by_cases hq : -800≤l[k].First∧l[k].First≤800
   ·rw [ZJ (fun h => h hq),cond_false]
    obtain ⟨n2,b2,e2,h2⟩:=down_s1 hl (d:=d) hlt (s1:=(n,b,(k:Int))) rfl hM
    rw [e2];refine .inl ⟨_,rfl,⟨k + 1,by push_cast;rfl,hlt,h2.same fun m => ?_⟩,hmeas (n2,b2)⟩
    constructor
    ·rintro ⟨a,ha,c,hc,h⟩
     rcases (htk a).1 ha with ha | ha
     ·exact .inl ⟨a,ha,c,hc,h⟩
     ·subst ha;exact .inr ⟨c,hc,h.2.2⟩
    ·rintro (⟨a,ha,c,hc,h⟩ | ⟨c,hc,h⟩)
     ·exact ⟨a,(htk a).2 (.inl ha),c,hc,h⟩
     ·exact ⟨l[k],(htk _).2 (.inr rfl),c,hc,hq.1,hq.2,h⟩
   ·rw [ZK hq,cond_true];refine .inl ⟨_,rfl,⟨k + 1,by push_cast;rfl,hlt,hM.same fun m => ?_⟩,hmeas (n,b)⟩
    constructor
    ·rintro ⟨a,ha,c,hc,h⟩
     rcases (htk a).1 ha with ha | ha
     ·exact ⟨a,ha,c,hc,h⟩
     ·subst ha;exact absurd ⟨h.1,h.2.1⟩ hq
    ·rintro ⟨a,ha,c,hc,h⟩;exact ⟨a,(htk a).2 (.inl ha),c,hc,h⟩
  ·have:k = l.length:=by omega
   subst this;rw [ZJ (by omega),cond_false]
   rw [YO] at hM;exact .inr ⟨_,rfl,hM⟩
theorem up_s1 {l:List Pl} (hl:SmallPl l) {d:Int} {i:Nat} (hi:i < l.length) {s1:Int × Bool × Int} (hs1:s1.2.2 = (i:Int)) {S:Int→Prop} {k0:Int} {b0:Bool} (h0:Z3J S k0 b0) :
  ∃ n b,loopO (Z03.s1 l d s1) (k0,b0,0) = some (n,b)∧Z3J (fun m => S m∨∃ b ∈ l,d≤b.Last - l[i].First∧m = b.Index - l[i].Index) n b:=by
 have key:=Zv (step:=Z03.s1 l d s1) (I:=fun s => ∃ (k:Nat),s.2.2 = (k:Int)∧k≤l.length∧Z3J (fun m => S m∨∃ b ∈ l.take k,d≤b.Last - l[i].First∧m = b.Index - l[i].Index) s.1 s.2.1) (fun s => l.length - s.2.2.toNat)
  (fun r => Z3J (fun m => S m∨∃ b ∈ l,d≤b.Last - l[i].First∧m = b.Index - l[i].Index) r.1 r.2) ?_ (k0,b0,0) ⟨0,rfl,YN _,h0.same (by simp)⟩
 ·obtain ⟨r,e,h⟩:=key
  exact ⟨r.1,r.2,e,h⟩
 ·rintro ⟨n,b,m⟩ ⟨k,hk,hkl,hM⟩;simp only at hk hM;subst hk;unfold Z03.s1;simp only [hs1];have hlen:=hl.len
  by_cases hlt:k < l.length
  ·have hv1:=hl.val _ (YF hlt)
   have hv2:=hl.val _ (YF hi)
   rw [ZK (by omega),cond_true,at?_nat hlt,at?_nat hi]
   have htk:=Z7j hlt
   generalize l[k] = x at hv1 htk;generalize l[i] = a at hv2 hM;simp only [Y0];rw [Z9 (x:=x.Last - a.First) (by omega),Z9 (x:=x.Index - a.Index) (by omega),Z9 (x:=(k:Int) + 1) (by omega)]
   have hmeas:∀ (z:Int × Bool),l.length - ((z.1,z.2,(k:Int) + 1):Int × Bool × Int).2.2.toNat < l.length - ((n,b,(k:Int)):Int × Bool × Int).2.2.toNat:=by
    intro z;simp only [];omega
   by_cases hc:d≤x.Last - a.First
   ·have hset:∀ m,(S m∨∃ b ∈ l.take (k + 1),d≤b.Last - a.First∧m = b.Index - a.Index) ↔ (S m∨∃ b ∈ l.take k,d≤b.Last - a.First∧m = b.Index - a.Index)∨m = x.Index - a.Index:=by
     intro m
     constructor
     ·rintro (h | ⟨b,hb,h⟩)
      ·exact .inl (.inl h)
      ·rcases (htk b).1 hb with hb | hb
       ·exact .inl (.inr ⟨b,hb,h⟩)
       ·subst hb;exact .inr h.2
     ·rintro ((h | ⟨b,hb,h⟩) | h)
      ·exact .inl h
      ·exact .inr ⟨b,(htk b).2 (.inl hb),h⟩
      ·exact .inr ⟨x,(htk x).2 (.inr rfl),hc,h⟩
    have hp:=hM.put hset
    rw [ZK hc,cond_true];have hcond:((bif (!b) then some true else some (decide (x.Index - a.Index < n))):Option Bool) = some (decide (b = false∨x.Index - a.Index < n)):=by
     cases b <;> simp
    rw [hcond];simp only [Y0]
    by_cases hq:b = false∨x.Index - a.Index < n
    ·rw [ZK hq,cond_true];exact .inl ⟨_,rfl,⟨k + 1,by push_cast;rfl,hlt,hp.1 hq⟩,hmeas (_,true)⟩
    ·rw [ZJ hq,cond_false];exact .inl ⟨_,rfl,⟨k + 1,by push_cast;rfl,hlt,hp.2 hq⟩,hmeas (n,b)⟩
   ·rw [ZJ hc,cond_false];simp only [Y0,cond_false];refine .inl ⟨_,rfl,⟨k + 1,by push_cast;rfl,hlt,hM.same fun m => ?_⟩,hmeas (n,b)⟩
    constructor
    ·rintro (h | ⟨b,hb,h⟩)
     ·exact .inl h
     ·rcases (htk b).1 hb with hb | hb
      ·exact .inr ⟨b,hb,h⟩
      ·subst hb;exact absurd h.1 hc
    ·rintro (h | ⟨b,hb,h⟩)
     ·exact .inl h
     ·exact .inr ⟨b,(htk b).2 (.inl hb),h⟩
  ·have:k = l.length:=by omega
   subst this;rw [ZJ (by omega),cond_false]
   rw [YO] at hM;exact .inr ⟨_,rfl,hM⟩
theorem ref_Up_eq {l:List Pl} (hl:SmallPl l) (d:Int):∃ n b,Z03 l d = some (n,b)∧Z3J (UpP l l d) n b:=by
 unfold Z03
 have key:=Zv (step:=Z03.s0 l d) (I:=fun s => ∃ (k:Nat),s.2.2 = (k:Int)∧k≤l.length∧Z3J (UpP (l.take k) l d) s.1 s.2.1) (fun s => l.length - s.2.2.toNat)
  (fun r => Z3J (UpP l l d) r.1 r.2) ?_ (0,false,0) ⟨0,rfl,YN _,Z3J.none (by simp [UpP])⟩
 ·obtain ⟨r,e,h⟩:=key
  rw [e];exact ⟨r.1,r.2,rfl,h⟩
 ·rintro ⟨n,b,m⟩ ⟨k,hk,hkl,hM⟩;simp only at hk hM;subst hk;unfold Z03.s0;simp only [];have hlen:=hl.len
  by_cases hlt:k < l.length
  ·have htk:=Z7j hlt
   rw [ZK (by omega),cond_true,at?_nat hlt]
   simp only [Y0];rw [Z9 (x:=(k:Int) + 1) (by omega)]
   have hmeas:∀ (z:Int × Bool),l.length - ((z.1,z.2,(k:Int) + 1):Int × Bool × Int).2.2.toNat < l.length - ((n,b,(k:Int)):Int × Bool × Int).2.2.toNat:=by
    intro z;simp only [];omega
   have hcond:((bif decide (l[k].First < -800) then some true else some (decide (l[k].First > 800))):Option Bool) = some (decide (¬ (-800≤l[k].First∧l[k].First≤800))):=by
    by_cases h1:l[k].First < -800
    ·rw [ZK h1,cond_true,ZK (by omega)]
    ·rw [ZJ h1,cond_false]
     by_cases h2:l[k].First > 800
     ·rw [ZK h2,ZK (by omega)]
     ·rw [ZJ h2,ZJ (by omega)]
   rw [hcond];simp only [Y0]
   by_cases hq : -800≤l[k].First∧l[k].First≤800
   ·rw [ZJ (fun h => h hq),cond_false]
    obtain ⟨n2,b2,e2,h2⟩:=up_s1 hl (d:=d) hlt (s1:=(n,b,(k:Int))) rfl hM
    rw [e2];refine .inl ⟨_,rfl,⟨k + 1,by push_cast;rfl,hlt,h2.same fun m => ?_⟩,hmeas (n2,b2)⟩
    constructor
    ·rintro ⟨a,ha,c,hc,h⟩
     rcases (htk a).1 ha with ha | ha
     ·exact .inl ⟨a,ha,c,hc,h⟩
     ·subst ha;exact .inr ⟨c,hc,h.2.2⟩
    ·rintro (⟨a,ha,c,hc,h⟩ | ⟨c,hc,h⟩)
     ·exact ⟨a,(htk a).2 (.inl ha),c,hc,h⟩
     ·exact ⟨l[k],(htk _).2 (.inr rfl),c,hc,hq.1,hq.2,h⟩
   ·rw [ZK hq,cond_true];refine .inl ⟨_,rfl,⟨k + 1,by push_cast;rfl,hlt,hM.same fun m => ?_⟩,hmeas (n,b)⟩
    constructor
    ·rintro ⟨a,ha,c,hc,h⟩
     rcases (htk a).1 ha with ha | ha
     ·exact ⟨a,ha,c,hc,h⟩
     ·subst ha;exact absurd ⟨h.1,h.2.1⟩ hq
    ·rintro ⟨a,ha,c,hc,h⟩;exact ⟨a,(htk a).2 (.inl ha),c,hc,h⟩
  ·have:k = l.length:=by omega
   subst this;rw [ZJ (by omega),cond_false]
   rw [YO] at hM;exact .inr ⟨_,rfl,hM⟩
end Go.Dn

namespace Go.Dn
open Go
theorem ref_find_eq {l:List Pl} (hl:SmallPl l) (hs:IncPl l) (x:Int):(∃ k:Nat,∃ h:k < l.length,Z0R l x = some (k:Int)∧l[k].Index = x)∨(Z0R l x = some (-1)∧∀ a ∈ l,a.Index ≠ x):=by
 have hlen:=hl.len
 have mono:∀ (i j:Nat) (hi:i < l.length) (hj:j < l.length),i < j→l[i].Index < l[j].Index:=fun i j hi hj hij => List.pairwise_iff_getElem.1 hs i j hi hj hij
 unfold Z0R
 have key:=Zv (step:=Z0R.s0 l x) (I:=fun s => ∃ (lo hi:Nat),s = ((lo:Int),(hi:Int))∧lo≤hi∧hi≤l.length∧(∀ (i:Nat) (h:i < l.length),i < lo→l[i].Index < x)∧(∀ (i:Nat) (h:i < l.length),hi≤i→x≤l[i].Index)) (fun s => (s.2 - s.1).toNat)
  (fun r => ∃ lo:Nat,r = (lo:Int)∧lo≤l.length∧(∀ (i:Nat) (h:i < l.length),i < lo→l[i].Index < x)∧(∀ (i:Nat) (h:i < l.length),lo≤i→x≤l[i].Index)) ?_ (0,(l.length:Int)) ⟨0,l.length,rfl,YN _,YC _,fun i h hh => absurd hh (Nat.not_lt_zero _),fun i h hh => absurd h (by omega)⟩
 ·obtain ⟨_,e,lo,rfl,h1,h2,h3⟩:=key
  rw [e,Y0]
  by_cases hlt:lo < l.length
  ·rw [ZK (by omega),cond_true,at?_nat hlt]
   simp only [Y0]
   by_cases hx:l[lo].Index = x
   ·rw [Z84 hx,cond_true];exact .inl ⟨lo,hlt,rfl,hx⟩
   ·rw [Z4i hx,cond_false];refine .inr ⟨rfl,fun a ha he => ?_⟩
    obtain ⟨i,hi⟩:=YB ha
    obtain ⟨hil,ei⟩:=List.getElem?_eq_some_iff.1 hi
    subst ei
    rcases Y0g i lo with hh | hh | hh
    ·have:=h2 i hil hh;omega
    ·subst hh;exact hx he
    ·have:=mono lo i hlt hil hh
     have:=h3 lo hlt (YC _)
     omega
  ·rw [ZJ (by omega),cond_false]
   refine .inr ⟨rfl,fun a ha he => ?_⟩
   obtain ⟨i,hi⟩:=YB ha
   obtain ⟨hil,ei⟩:=List.getElem?_eq_some_iff.1 hi
   subst ei;have:=h2 i hil (by omega)
   omega
 ·rintro _ ⟨lo,hi,rfl,h1,h2,h3,h4⟩;unfold Z0R.s0;simp only []
  by_cases hlt:lo < hi
  ·have hm:w64 ((w64 ((lo:Int) + (hi:Int))).tdiv 2) = (((lo + hi) / 2:Nat):Int):=by
    rw [Z9 (x:=(lo:Int) + hi) (by omega),Y0l (by omega),Z9 (by omega)]
    omega
   have hmi:(lo + hi) / 2 < l.length:=by omega
   rw [ZK (by omega),cond_true,hm,at?_nat hmi]
   simp only [Y0];rw [Z9 (x:=(((lo + hi) / 2:Nat):Int) + 1) (by omega)]
   by_cases hc:l[(lo + hi) / 2].Index < x
   ·rw [ZK hc,cond_true];refine .inl ⟨_,rfl,⟨(lo + hi) / 2 + 1,hi,by simp,by omega,h2,?_,h4⟩,by simp only [];omega⟩
    intro i h hh
    rcases YG i ((lo + hi) / 2) with h5 | h5
    ·have:=mono i _ h hmi h5;omega
    ·have:i = (lo + hi) / 2:=by omega
     subst this;exact hc
   ·rw [ZJ hc,cond_false];refine .inl ⟨_,rfl,⟨lo,(lo + hi) / 2,rfl,by omega,by omega,h3,?_⟩,by simp only [];omega⟩
    intro i h hh
    rcases YG ((lo + hi) / 2) i with h5 | h5
    ·have:=mono _ i hmi h h5;omega
    ·have:i = (lo + hi) / 2:=by omega
     subst this;omega
  ·have:lo = hi:=by omega
   subst this;rw [ZJ (by omega),cond_false]
   exact .inr ⟨_,rfl,lo,rfl,h2,h3,h4⟩
def PairL (l m:List Pl) (k n:Int):Prop:=∃ a ∈ l,∃ b ∈ m,b.Index = a.Index + k∧n = b.First - a.Last
def PairM (l m:List Pl) (k n:Int):Prop:=∃ a ∈ l,∃ b ∈ m,b.Index = a.Index + k∧n = b.Last - a.First
theorem IncPl.uniq {l:List Pl} (h:IncPl l) {a b:Pl} (ha:a ∈ l) (hb:b ∈ l) (he:a.Index = b.Index):a = b:=by
 obtain ⟨i,hi⟩:=YB ha
 obtain ⟨j,hj⟩:=YB hb
 obtain ⟨hil,ei⟩:=List.getElem?_eq_some_iff.1 hi
 obtain ⟨hjl,ej⟩:=List.getElem?_eq_some_iff.1 hj
 rcases Y0g i j with hh | hh | hh
 ·have:=List.pairwise_iff_getElem.1 h i j hil hjl hh
  rw [ei,ej] at this;omega
 ·subst hh;rw [← ei,← ej]
 ·have:=List.pairwise_iff_getElem.1 h j i hjl hil hh
  rw [ei,ej] at this;omega
theorem ref_Two_eq {l:List Pl} (hl:SmallPl l) (hs:IncPl l) {k:Int} (hk : -1000≤k∧k≤1000):∃ x y b,Z0q l k = some (x,y,b)∧Z3J (PairL l l k) x b∧Z3I (PairM l l k) y b:=by
 have hlen:=hl.len
 unfold Z0q
 have key:=Zv (step:=Z0q.s0 l k) (I:=fun s => ∃ (i:Nat),s.2.2.2 = (i:Int)∧i≤l.length∧Z3J (PairL (l.take i) l k) s.1 s.2.2.1∧Z3I (PairM (l.take i) l k) s.2.1 s.2.2.1) (fun s => l.length - s.2.2.2.toNat)
  (fun r => Z3J (PairL l l k) r.1 r.2.2∧Z3I (PairM l l k) r.2.1 r.2.2) ?_ (0,0,false,0) ⟨0,rfl,YN _,Z3J.none (by simp [PairL]),Z3I.none (by simp [PairM])⟩
 ·obtain ⟨r,e,h1,h2⟩:=key
  rw [e];exact ⟨r.1,r.2.1,r.2.2,rfl,h1,h2⟩
 ·rintro ⟨x,y,b,m⟩ ⟨i,hi,hil,h1,h2⟩;simp only at hi h1 h2;subst hi;unfold Z0q.s0;simp only []
  by_cases hlt:i < l.length
  ·have htk:=Z7j hlt
   have hv:=hl.val _ (YF hlt)
   have hmem:=YF hlt
   rw [ZK (by omega),cond_true,at?_nat hlt]
   generalize l[i] = a at hv htk hmem;simp only [Y0];rw [Z9 (x:=a.Index + k) (by omega),Z9 (x:=(i:Int) + 1) (by omega)]
   have hmeas:∀ (z:Int × Int × Bool),l.length - ((z.1,z.2.1,z.2.2,(i:Int) + 1):Int × Int × Bool × Int).2.2.2.toNat < l.length - ((x,y,b,(i:Int)):Int × Int × Bool × Int).2.2.2.toNat:=by
    intro z;simp only [];omega
   rcases ref_find_eq hl hs (a.Index + k) with ⟨j,hj,e,hx⟩ | ⟨e,hx⟩
   ·have hv2:=hl.val _ (YF hj)
    have hcm:=YF hj
    rw [e];simp only [Y0];rw [ZJ (by omega),cond_false,at?_nat hj]
    generalize l[j] = c at hv2 hx hcm;simp only [Y0];rw [Z9 (x:=c.First - a.Last) (by omega),Z9 (x:=c.Last - a.First) (by omega)]
    have s1:∀ m,PairL (l.take (i + 1)) l k m ↔ PairL (l.take i) l k m∨m = c.First - a.Last:=by
     intro m
     constructor
     ·rintro ⟨a',ha',b',hb',h3,h4⟩
      rcases (htk a').1 ha' with h5 | h5
      ·exact .inl ⟨a',h5,b',hb',h3,h4⟩
      ·subst h5;have:=hs.uniq hb' hcm (by omega)
       subst this;exact .inr h4
     ·rintro (⟨a',ha',h3⟩ | h)
      ·exact ⟨a',(htk a').2 (.inl ha'),h3⟩
      ·exact ⟨a,(htk a).2 (.inr rfl),c,hcm,hx,h⟩
    have s2:∀ m,PairM (l.take (i + 1)) l k m ↔ PairM (l.take i) l k m∨m = c.Last - a.First:=by
     intro m
     constructor
     ·rintro ⟨a',ha',b',hb',h3,h4⟩
      rcases (htk a').1 ha' with h5 | h5
      ·exact .inl ⟨a',h5,b',hb',h3,h4⟩
      ·subst h5;have:=hs.uniq hb' hcm (by omega)
       subst this;exact .inr h4
     ·rintro (⟨a',ha',h3⟩ | h)
      ·exact ⟨a',(htk a').2 (.inl ha'),h3⟩
      ·exact ⟨a,(htk a).2 (.inr rfl),c,hcm,hx,h⟩
    have p1:=h1.put s1
    have p2:=h2.put s2
    have hc1:((!b) || decide (c.First - a.Last < x)) = decide (b = false∨c.First - a.Last < x):=by cases b <;> simp
    have hc2:((!b) || decide (c.Last - a.First > y)) = decide (b = false∨y < c.Last - a.First):=by cases b <;> simp
    have q1:∃ x2,((bif ((!b) || decide (c.First - a.Last < x)) then some (c.First - a.Last,c.Last - a.First) else some (x,c.Last - a.First)):Option (Int × Int)) = some (x2,c.Last - a.First)∧Z3J (PairL (l.take (i + 1)) l k) x2 true:=by
     rw [hc1]
     by_cases hq:b = false∨c.First - a.Last < x
     ·rw [ZK hq];exact ⟨_,rfl,p1.1 hq⟩
     ·rw [ZJ hq];have hb:b = true:=by cases b;exact absurd (.inl rfl) hq;rfl
      subst hb;exact ⟨_,rfl,p1.2 hq⟩
    have q2:∃ y2,((bif ((!b) || decide (c.Last - a.First > y)) then some (c.Last - a.First) else some y):Option Int) = some y2∧Z3I (PairM (l.take (i + 1)) l k) y2 true:=by
     rw [hc2]
     by_cases hq:b = false∨y < c.Last - a.First
     ·rw [ZK hq];exact ⟨_,rfl,p2.1 hq⟩
     ·rw [ZJ hq];have hb:b = true:=by cases b;exact absurd (.inl rfl) hq;rfl
      subst hb;exact ⟨_,rfl,p2.2 hq⟩
    obtain ⟨x2,e1,g1⟩:=q1
    obtain ⟨y2,e2,g2⟩:=q2
    rw [e1];simp only [Y0];rw [e2];exact .inl ⟨_,rfl,⟨i + 1,by push_cast;rfl,hlt,g1,g2⟩,hmeas (x2,y2,true)⟩
   ·rw [e];refine .inl ⟨_,rfl,⟨i + 1,by push_cast;rfl,hlt,h1.same fun m => ?_,h2.same fun m => ?_⟩,hmeas (x,y,b)⟩
    ·constructor
     ·rintro ⟨a',ha',b',hb',h3,h4⟩
      rcases (htk a').1 ha' with h5 | h5
      ·exact ⟨a',h5,b',hb',h3,h4⟩
      ·subst h5;exact absurd h3 (hx b' hb')
     ·rintro ⟨a',ha',h3⟩;exact ⟨a',(htk a').2 (.inl ha'),h3⟩
    ·constructor
     ·rintro ⟨a',ha',b',hb',h3,h4⟩
      rcases (htk a').1 ha' with h5 | h5
      ·exact ⟨a',h5,b',hb',h3,h4⟩
      ·subst h5;exact absurd h3 (hx b' hb')
     ·rintro ⟨a',ha',h3⟩;exact ⟨a',(htk a').2 (.inl ha'),h3⟩
  ·have:i = l.length:=by omega
   subst this;rw [ZJ (by omega),cond_false]
   rw [YO] at h1 h2;exact .inr ⟨_,rfl,h1,h2⟩
end Go.Dn

namespace Go.Dn
open Go
structure CloseF (f:Form):Prop where
 near:NearF0 f
 per:f.Period≤24
 hull:∀ l ∈ f.Core,l ≠ []→-30≤fstT l∧lstT l≤30
 odd:∀ g ∈ f.Odd,-40≤g.Index∧g.Index≤40
 ticks:∀ g ∈ f.Odd,g.Ticks ≠ []→-300≤fstT g.Ticks∧lstT g.Ticks≤300
theorem hull_loop {A:Int} {l:List (List Span)} {step:Int→Option (Int ⊕ Jx Unit Bool)} (hlen:(l.length:Int) < 4611686018427387904) (hL:∀ x ∈ l,Len x)
  (hstep:∀ s1:Int,step s1 = (bif decide (s1 < (l.length:Int)) then (at? l s1).bind fun x2 => (Z09 x2).bind fun x3 => (bif (x3.2 && ((decide (x3.1.From < -A)) || (decide (x3.1.To > A)))) then some (.inr (.ret false)) else some (.inl (w64 (s1 + 1)))) else some (.inr (.go ())))) :
  (loopO step 0 = some (.go ())∧∀ (k:Nat) (x:List Span),l[k]? = some x→(x ≠ []→-A≤fstT x∧lstT x≤A))∨(loopO step 0 = some (.ret false)∧¬ ∀ (k:Nat) (x:List Span),l[k]? = some x→(x ≠ []→-A≤fstT x∧lstT x≤A)):=by
 refine Z2x (l:=l) (step:=step) (fun _ x => x ≠ []→-A≤fstT x∧lstT x≤A) (no:=.ret false) (yes:=.go ()) (fun k x hk _ => ?_) ?_
 ·obtain ⟨h1,h2⟩:=Z7a hk
  have hlx:=hL x (Y7 hk)
  rw [hstep,ZK h2,cond_true,h1];simp only [Y0];rw [Z5m hlx];simp only [Y0];rw [Z9 (by omega)]
  by_cases hx:x = []
  ·rw [if_pos hx];exact .inl ⟨rfl,fun h => absurd hx h⟩
  ·rw [if_neg hx];simp only [Y0t]
   by_cases hb:fstT x < -A∨lstT x > A
   ·have:(decide (fstT x < -A) || decide (lstT x > A)) = true:=by simpa using hb
    rw [this];exact .inr ⟨rfl,fun h => by have:=h hx;omega⟩
   ·have:(decide (fstT x < -A) || decide (lstT x > A)) = false:=by
     rw [ZJ (fun h => hb (.inl h)),ZJ (fun h => hb (.inr h))];rfl
    rw [this];exact .inl ⟨rfl,fun _ => by omega⟩
 ·rw [hstep,ZJ (by omega)];rfl
theorem odd_loop2 {A B:Int} {l:List Granule} {step:Int→Option (Int ⊕ Jx Unit Bool)} (hlen:(l.length:Int) < 4611686018427387904) (hL:∀ g ∈ l,Len g.Ticks)
  (hstep:∀ s2:Int,step s2 = (bif decide (s2 < (l.length:Int)) then (at? l s2).bind fun x4 => (Z09 x4.Ticks).bind fun x5 => (bif (((decide (x4.Index < -A)) || (decide (x4.Index > A))) || (x5.2 && ((decide (x5.1.From < -B)) || (decide (x5.1.To > B))))) then some (.inr (.ret false)) else some (.inl (w64 (s2 + 1)))) else some (.inr (.go ())))) :
  (loopO step 0 = some (.go ())∧∀ (k:Nat) (g:Granule),l[k]? = some g→((-A≤g.Index∧g.Index≤A)∧(g.Ticks ≠ []→-B≤fstT g.Ticks∧lstT g.Ticks≤B)))∨(loopO step 0 = some (.ret false)∧¬ ∀ (k:Nat) (g:Granule),l[k]? = some g→((-A≤g.Index∧g.Index≤A)∧(g.Ticks ≠ []→-B≤fstT g.Ticks∧lstT g.Ticks≤B))):=by
 refine Z2x (l:=l) (step:=step) (fun _ g => (-A≤g.Index∧g.Index≤A)∧(g.Ticks ≠ []→-B≤fstT g.Ticks∧lstT g.Ticks≤B)) (no:=.ret false) (yes:=.go ()) (fun k g hk _ => ?_) ?_
 ·obtain ⟨h1,h2⟩:=Z7a hk
  have hlx:=hL g (Y7 hk)
  rw [hstep,ZK h2,cond_true,h1];simp only [Y0];rw [Z5m hlx];simp only [Y0];rw [Z9 (by omega)]
  by_cases hi:g.Index < -A∨g.Index > A
  ·have:(decide (g.Index < -A) || decide (g.Index > A)) = true:=by simpa using hi
   rw [this,Bool.true_or,cond_true];exact .inr ⟨rfl,fun h => by have:=h.1;omega⟩
  ·have:(decide (g.Index < -A) || decide (g.Index > A)) = false:=by
    rw [ZJ (fun h => hi (.inl h)),ZJ (fun h => hi (.inr h))];rfl
   rw [this,Y0L]
   by_cases hx:g.Ticks = []
   ·rw [if_pos hx];exact .inl ⟨rfl,by omega,fun h => absurd hx h⟩
   ·rw [if_neg hx];simp only [Y0t]
    by_cases hb:fstT g.Ticks < -B∨lstT g.Ticks > B
    ·have:(decide (fstT g.Ticks < -B) || decide (lstT g.Ticks > B)) = true:=by simpa using hb
     rw [this];exact .inr ⟨rfl,fun h => by have:=h.2 hx;omega⟩
    ·have:(decide (fstT g.Ticks < -B) || decide (lstT g.Ticks > B)) = false:=by
      rw [ZJ (fun h => hb (.inl h)),ZJ (fun h => hb (.inr h))];rfl
     rw [this];exact .inl ⟨rfl,by omega,fun _ => by omega⟩
 ·rw [hstep,ZJ (by omega)];rfl
theorem near15_eq {f:Form} (hl:Lim f):∃ b,Z06 f = some b∧(b = true→ZAa f∧RightF f):=by
 have hcl:=Z1I (b:=23) hl.core
 have hol:=Z1I (b:=31) hl.odd
 unfold Z06
 obtain ⟨b,e1,i1⟩:=ZC6 hl
 rw [e1]
 cases b with
 | false => exact ⟨false,rfl,nofun⟩
 | true =>
  have h:=i1.1 rfl
  simp only [Y0,YH,Y0L]
  by_cases hp:f.Period > 60
  ·rw [ZK hp];exact ⟨false,rfl,nofun⟩
  rw [ZJ hp,cond_false]
  rcases hull_loop (A:=200) (step:=Z06.s0 f) hcl (fun x hx => (hl.sets x hx).1) (fun s => rfl) with ⟨l1,_⟩ | ⟨l1,_⟩
  ·rw [l1];simp only [Y0,Jx.elim]
   rcases odd_loop2 (A:=100) (B:=3000) (step:=Z06.s1 f) hol (fun g hg => (hl.ticks g hg).2.1) (fun s => rfl) with ⟨m1,_⟩ | ⟨m1,_⟩
   ·rw [m1];exact ⟨true,rfl,fun _ => h⟩
   ·rw [m1];exact ⟨false,rfl,nofun⟩
  ·rw [l1];exact ⟨false,rfl,nofun⟩
theorem close20_eq {f:Form} (hl:Lim f):∃ b,Zt f = some b∧(b = true→CloseF f):=by
 have hcl:=Z1I (b:=23) hl.core
 have hol:=Z1I (b:=31) hl.odd
 unfold Zt
 obtain ⟨b,e1,i1⟩:=near15_eq hl
 rw [e1]
 cases b with
 | false => exact ⟨false,rfl,nofun⟩
 | true =>
  obtain ⟨hsm,hr⟩:=i1 rfl
  simp only [Y0,YH,Y0L]
  by_cases hp:f.Period > 24
  ·rw [ZK hp];exact ⟨false,rfl,nofun⟩
  rw [ZJ hp,cond_false]
  rcases hull_loop (A:=30) (step:=Zt.s0 f) hcl (fun x hx => (hl.sets x hx).1) (fun s => rfl) with ⟨l1,l2⟩ | ⟨l1,_⟩
  ·rw [l1];simp only [Y0,Jx.elim]
   rcases odd_loop2 (A:=40) (B:=300) (step:=Zt.s1 f) hol (fun g hg => (hl.ticks g hg).2.1) (fun s => rfl) with ⟨m1,m2⟩ | ⟨m1,_⟩
   ·rw [m1];have c1:∀ l ∈ f.Core,l ≠ []→-30≤fstT l∧lstT l≤30:=fun l hm => by obtain ⟨k,hk⟩:=YB hm;exact l2 k l hk
    have c2:∀ g ∈ f.Odd,(-40≤g.Index∧g.Index≤40)∧(g.Ticks ≠ []→-300≤fstT g.Ticks∧lstT g.Ticks≤300):=fun g hm => by obtain ⟨k,hk⟩:=YB hm;exact m2 k g hk
    refine ⟨true,rfl,fun _ => ⟨⟨hl,hr,hsm,by omega,fun l hm hn => ?_,fun g hg => ?_⟩,by omega,c1,fun g hg => (c2 g hg).1,fun g hg => (c2 g hg).2⟩⟩
    ·have:=c1 l hm hn;omega
    ·have:=(c2 g hg).1;omega
   ·rw [m1];exact ⟨false,rfl,nofun⟩
  ·rw [l1];exact ⟨false,rfl,nofun⟩
end Go.Dn

namespace Go.Dn
open Go
theorem CloseF.core {f:Form} (h:CloseF f) (h0:0 < f.Count) {i:Int} (hi : -20000≤i∧i≤20000):∀ s ∈ cs f i,-500000≤s.From∧s.To≤500000∧s.From≤s.To:=by
 intro s hs
 obtain ⟨j,q,j0,j1,rfl,e⟩:=Z1F h0 i
 rw [e] at hs
 obtain ⟨s0,hs0,rfl⟩:=List.mem_map.1 hs
 have hr:=Z1s h.near.right.shape h0 j0 j1
 have hne:cs f j ≠ []:=Y06 hs0
 have hm:cs f j ∈ f.Core:=by
  rw [Z2L j0 j1];have:=h.near.right.shape.count
  have hj:j.toNat < f.Core.length:=by omega
  rw [YI,Y2 hj];exact YF hj
 have h1:=Z4f hr s0 hs0
 have h2:=h.hull _ hm hne
 have hc:=h.near.right.shape.count
 have hp:=h.near.right.shape.per
 have hp2:=h.per
 have hq : -20000≤q∧q≤20000:=by
  constructor
  ·by_cases hq : -20000≤q
   ·exact hq
   ·have:f.Count * q≤f.Count * -20001:=YD (by omega) (by omega)
    have:f.Count * -20001≤j - 20001 - f.Count:=by
     have:1≤f.Count:=by omega
     omega
    omega
  ·by_cases hq:q≤20000
   ·exact hq
   ·have:f.Count * 20001≤f.Count * q:=YD (by omega) (by omega)
    omega
 have b1:=YE hq.1 hp.1
 have b2:=YE hq.2 hp.1
 simp only [ZR]
 omega
theorem CloseF.fits {f:Form} (h:CloseF f) {i:Int} (hi : -20000≤i∧i≤20000):fits f i:=by
 intro s hs
 by_cases ho:ZT f i
 ·obtain ⟨g,hg,rfl⟩:=ho
  rw [Z0J h.near.right.shape.inc hg] at hs;obtain ⟨k,hk⟩:=YB hs
  have:=(h.near.right.shape.odd g hg).1.ok k s hk
  exact ⟨this.1,this.2.1⟩
 ·by_cases h0:0 < f.Count
  ·rw [Z0L h0 ho] at hs;have:=h.core h0 hi s hs
   unfold ZF;omega
  ·rw [Z0g ho (by have:=h.near.right.shape.count;omega)] at hs;cases hs
theorem set05c_eq {f:Form} (h:CloseF f) {i:Int} (hi : -20000≤i∧i≤20000):∃ l q,Z0S f i = some (l,q)∧-20000≤q∧q≤20000∧Len l∧Z1 f i = l.map (ZR (q * f.Period))∧(l ≠ []→q ≠ 0→0 < f.Period)∧RightL l:=by
 have hl:=h.near.lim
 have hs:=h.near.right.shape
 have holen:(f.Odd.length:Int) < 4611686018427387904:=Z1I (b:=31) hl.odd
 have hcnt:=hs.count
 have hper:=hs.per
 have hz:=hs.zero
 have hloop:(loopO (Z0S.s0 f i) 0 = some (.go ())∧¬ ZT f i)∨∃ g ∈ f.Odd,g.Index = i∧loopO (Z0S.s0 f i) 0 = some (.ret (g.Ticks,0)):=by
  obtain ⟨r,q1,q2⟩:=Zv (step:=Z0S.s0 f i) (fun s => ∃ k:Nat,k≤f.Odd.length∧s = (k:Int)∧∀ g ∈ f.Odd.take k,g.Index ≠ i) (fun s => f.Odd.length - s.toNat)
   (fun r => (r = .go ()∧¬ ZT f i)∨∃ g ∈ f.Odd,g.Index = i∧r = .ret (g.Ticks,0)) (by
    rintro s ⟨k,hk,rfl,hall⟩;unfold Z0S.s0
    by_cases hlt:k < f.Odd.length
    ·rw [ZK (show (k:Int) < f.Odd.length by omega),cond_true,at?_nat hlt]
     simp only [Y0]
     by_cases he:f.Odd[k].Index = i
     ·right
      rw [Z84 he,cond_true];exact ⟨_,rfl,.inr ⟨f.Odd[k],YF hlt,he,rfl⟩⟩
     ·left
      rw [Z4i he,cond_false,Z9 (by omega)]
      refine ⟨_,rfl,⟨k + 1,hlt,by push_cast;rfl,?_⟩,by omega⟩
      intro g hg;rw [(Yf hlt).symm] at hg
      rcases List.mem_append.1 hg with h1 | h1
      ·exact hall g h1
      ·rw [YK] at h1;subst h1;exact he
    ·right
     obtain rfl:k = f.Odd.length:=by omega
     rw [ZJ (by omega),cond_false]
     rw [YO] at hall;exact ⟨_,rfl,.inl ⟨rfl,fun ⟨g,hg,e⟩ => hall g hg e⟩⟩) 0 ⟨0,YN _,rfl,by simp⟩
  rcases q2 with ⟨rfl,h2⟩ | ⟨g,g1,g2,rfl⟩
  ·exact .inl ⟨q1,h2⟩
  ·exact .inr ⟨g,g1,g2,q1⟩
 unfold Z0S
 rcases hloop with ⟨q1,ho⟩ | ⟨g,g1,rfl,q1⟩
 ·rw [q1];simp only [Y0,Jx.elim]
  by_cases h0:f.Count = 0
  ·rw [Z84 h0,cond_true];exact ⟨[],0,rfl,by omega,by omega,by unfold Len;simp,by rw [Z0g ho h0];rfl,fun h => absurd rfl h,⟨by simp,by simp⟩⟩
  ·have hp:0 < f.Count:=by omega
   have hfew:=h.near.small.1
   rw [Z4i h0,cond_false,Z6K (by unfold In64;omega) hp hl.count]
   simp only [Y0];rw [(Z0t hs h0 i).1];have hm:=(Z0t hs h0 i).2
   refine ⟨Z0e f i,i / f.Count,rfl,?_,?_,(hl.sets _ hm).1,Z2C ho h0,fun _ _ => by omega,hs.core _ hm⟩
   ·have:=Y0H hp (show -20000 * f.Count≤i by omega);exact this
   ·by_cases hn:0≤i
    ·have:=Y0J f.Count hn;omega
    ·have:=Y0j (show i < 0 by omega) hp;omega
 ·rw [q1];exact ⟨g.Ticks,0,rfl,by omega,by omega,(hl.ticks g g1).2.1,by rw [Z0J hs.inc g1,Int.zero_mul,Z73],fun _ h => absurd rfl h,(hs.odd g g1).1⟩
theorem get05c_eq {f:Form} (h:CloseF f) {i:Int} (hi : -20000≤i∧i≤20000):Z1U f i = some (Z1 f i,0):=by
 obtain ⟨l,q,e,q0,q1,hl,hset,hpos,hr⟩:=set05c_eq h hi
 have hper:=h.near.right.shape.per
 have hp2:=h.per
 have hrr:=Z1D
 have hro:=Z3a
 unfold Z1U
 rw [ZJ (show ¬ i < -1099511627776 by omega),ZJ (show ¬ i > 1099511627776 by omega)]
 simp only [Y12,cond_false]
 rw [e]
 simp only [Y0]
 by_cases hc:l = []∨q = 0
 ·have:(((l.length:Int) == 0) || (q == 0)) = true:=by
   rcases hc with rfl | rfl <;> simp
  rw [this,cond_true,app?_ok (by unfold Len at hl;simp only [Yd];omega)]
  simp only [Y0,List.nil_append];rw [hset]
  rcases hc with rfl | rfl
  ·rfl
  ·rw [Int.zero_mul,Z73]
 ·have hne:l ≠ []:=fun h => hc (.inl h)
  have hq:q ≠ 0:=fun h => hc (.inr h)
  have hlp:=List.length_pos_iff.2 hne
  have:(((l.length:Int) == 0) || (q == 0)) = false:=by
   rw [Z4i (by omega),Z4i hq];rfl
  have hp0:=hpos hne hq
  rw [this,cond_false,nz?_ok (by omega)]
  simp only [Y0];have d1:10995116277≤(2199023255552:Int) / f.Period∧(2199023255552:Int) / f.Period≤2199023255552:=by
   constructor
   ·apply Y0H hp0;have:=YD hp2 (show (0:Int)≤10995116277 by omega)
    omega
   ·exact Y0J _ (by omega)
  have e1:(2199023255552:Int).tdiv f.Period = 2199023255552 / f.Period:=Y0l (by omega)
  have e2:(-2199023255552:Int).tdiv f.Period = -(2199023255552 / f.Period):=by rw [Int.neg_tdiv,e1]
  rw [e1,e2];generalize (2199023255552:Int) / f.Period = z at d1;rw [Z9 (x:=z) (by omega),Z9 (x:=z + 1) (by omega),Z9 (x:=-z) (by omega),Z9 (x:=-z - 1) (by omega),ZJ (show ¬ q > z + 1 by omega),ZJ (show ¬ q < -z - 1 by omega)]
  simp only [cond_false,Y0];have b1:=YE q0 hper.1
  have b2:=YE q1 hper.1
  rw [Z9 (x:=q * f.Period) (by omega),move02_eq hl hr (by omega) (fun s hs => by
   have:=h.fits hi (ZR (q * f.Period) s) (by rw [hset];exact List.mem_map.2 ⟨s,hs,rfl⟩)
   exact this)]
  simp only [Y0];rw [hset]
end Go.Dn

namespace Go.Dn
open Go
theorem Z9D:∀ {l:List Nat} {x:Nat},x ∈ l→x≤l.sum
 | y :: l,x,h => by
  rw [List.sum_cons]
  rcases List.mem_cons.1 h with rfl | h
  ·omega
  ·have:=Z9D h;omega
theorem set_len {f:Form} (h:CloseF f) (i:Int):(Z1 f i).length≤60:=by
 have hs:=h.near.small.2.2
 unfold sizeF at hs
 by_cases ho:ZT f i
 ·obtain ⟨g,hg,rfl⟩:=ho
  rw [Z0J h.near.right.shape.inc hg];have:=Z9D (List.mem_map_of_mem (f:=fun g:Granule => g.Ticks.length) hg)
  omega
 ·by_cases h0:f.Count = 0
  ·rw [Z0g ho h0];simp
  ·rw [Z2C ho h0,YZ];have:=Z9D (List.mem_map_of_mem (f:=List.length) (Z0t h.near.right.shape h0 i).2)
   omega
def Z0s (f:Form) (i:Int):Prop:=∃ t,hasT (Z1 f i) t∧-1200≤t∧t≤1200
abbrev win:Span:=⟨-1200,1200⟩
theorem meets_eq {f:Form} (h:CloseF f) {i:Int} (hi : -20000≤i∧i≤20000):(Z1H f i win = some true∧Z0s f i)∨(Z1H f i win = some false∧¬ Z0s f i):=by
 have hlen:=set_len h i
 have hfit:=h.fits hi
 unfold Z1H
 rw [get05c_eq h hi]
 have hm:midT (Z1 f i):=fun u hu => by have:=hfit u hu;unfold ZF at this;omega
 have hw:midT [win]:=fun u hu => by rw [YK] at hu;subst hu;simp
 obtain ⟨r,e,hr⟩:=set2_eq (a:=Z1 f i) (b:=[win]) (by omega) (by simp) hm hw
 have hiff:r ≠ [] ↔ Z0s f i:=by
  rw [hr]
  constructor
  ·rintro ⟨t,h1,u,hu,h2,h3⟩;rw [YK] at hu;subst hu;exact ⟨t,h1,h2,h3⟩
  ·rintro ⟨t,h1,h2,h3⟩;exact ⟨t,h1,win,List.mem_singleton.2 rfl,h2,h3⟩
 simp only [Y0,Z84,cond_true]
 rw [e]
 simp only [Y0]
 cases r with
 | nil =>
  refine .inr ⟨?_,fun hn => hiff.2 hn rfl⟩
  rw [ZJ (by simp)]
 | cons x r =>
  refine .inl ⟨?_,hiff.1 (by simp)⟩
  rw [ZK (by simp)]
theorem over_s1 {f:Form} (h:CloseF f) (h0:0 < f.Count) {r low hi:Int} (hr:0≤r∧r < f.Count) {s1:List Int × Int} {x5:Int × Int} (hs1:s1.2 = r) (hx5:x5.1 = hi) (hlow : -1300≤low) (hhi:hi≤1300) (hlh:low≤hi + 2)
  {P0:List Int} (hP0:P0.Pairwise (· < ·)) (hl0:P0.length≤100000000) :
  ∃ P,loopO (ZP.s1 f win s1 x5) (P0,low) = some P∧P.Pairwise (· < ·)∧(∀ z,z ∈ P ↔ z ∈ P0∨∃ q,low≤q∧q≤hi + 1∧z = q * f.Count + r∧Z0s f z)∧P.length≤P0.length + 3000:=by
 have hc12:f.Count≤12:=by have:=h.near.small.1;have:=h.near.right.shape.count;omega
 have key:=Zv (step:=ZP.s1 f win s1 x5) (I:=fun s => low≤s.2∧s.2≤hi + 2∧s.1.Pairwise (· < ·)∧(∀ z,z ∈ s.1 ↔ z ∈ P0∨∃ q,low≤q∧q < s.2∧z = q * f.Count + r∧Z0s f z)∧(s.1.length:Int)≤P0.length + (s.2 - low)) (fun s => (hi + 2 - s.2).toNat)
  (fun P => P.Pairwise (· < ·)∧(∀ z,z ∈ P ↔ z ∈ P0∨∃ q,low≤q∧q≤hi + 1∧z = q * f.Count + r∧Z0s f z)∧P.length≤P0.length + 3000) ?_ (P0,low) ⟨Yy _,hlh,hP0,fun z => ⟨fun hz => .inl hz,fun hz => hz.elim id fun ⟨q,h1,h2,_⟩ => absurd h2 (by simp only;omega)⟩,by simp only;omega⟩
 ·exact key
 ·rintro ⟨P,q⟩ ⟨q1,q2,hs,hmem,hlen⟩;simp only at q1 q2 hs hmem hlen;unfold ZP.s1;simp only [hs1,hx5];rw [Z9 (x:=hi + 1) (by omega)]
  by_cases hlt:q≤hi + 1
  ·have m1 : -1300 * f.Count≤q * f.Count:=YE (by omega) (by omega)
   have m2:q * f.Count≤1301 * f.Count:=YE (by omega) (by omega)
   rw [ZK hlt,cond_true,Z9 (x:=q * f.Count) (by omega),Z9 (x:=q * f.Count + r) (by omega),Z9 (x:=q + 1) (by omega)]
   have step:∀ z,(∃ q',low≤q'∧q' < q + 1∧z = q' * f.Count + r∧Z0s f z) ↔ (∃ q',low≤q'∧q' < q∧z = q' * f.Count + r∧Z0s f z)∨(z = q * f.Count + r∧Z0s f z):=by
    intro z
    constructor
    ·rintro ⟨q',a1,a2,a3⟩
     by_cases hq:q' = q
     ·subst hq;exact .inr a3
     ·exact .inl ⟨q',a1,by omega,a3⟩
    ·rintro (⟨q',a1,a2,a3⟩ | a3)
     ·exact ⟨q',a1,by omega,a3⟩
     ·exact ⟨q,q1,by omega,a3⟩
   rcases meets_eq h (i:=q * f.Count + r) (by omega) with ⟨e,hn⟩ | ⟨e,hn⟩
   ·rw [e];have l1:=Z85 false P (q * f.Count + r)
    simp only [Y0,cond_true];rw [ZBR (by omega)]
    refine .inl ⟨_,rfl,⟨by simp only;omega,by simp only;omega,Z4h _ _ hs,fun z => ?_,by simp only;omega⟩,by simp only;omega⟩
    rw [Z6Y,hmem,step]
    constructor
    ·rintro ((h1 | h1) | h1)
     ·exact .inl h1
     ·exact .inr (.inl h1)
     ·exact .inr (.inr ⟨h1,h1 ▸ hn⟩)
    ·rintro (h1 | h1 | h1)
     ·exact .inl (.inl h1)
     ·exact .inl (.inr h1)
     ·exact .inr h1.1
   ·rw [e];simp only [Y0,cond_false];refine .inl ⟨_,rfl,⟨by simp only;omega,by simp only;omega,hs,fun z => ?_,by simp only;omega⟩,by simp only;omega⟩
    rw [hmem,step]
    constructor
    ·rintro (h1 | h1)
     ·exact .inl h1
     ·exact .inr (.inl h1)
    ·rintro (h1 | h1 | h1)
     ·exact .inl h1
     ·exact .inr h1
     ·exact absurd (h1.1 ▸ h1.2) hn
  ·rw [ZJ hlt,cond_false];have hq:q = hi + 2:=by omega
   subst hq;refine .inr ⟨P,rfl,hs,fun z => ?_,by omega⟩
   rw [hmem]
   constructor
   ·rintro (h1 | ⟨q',a1,a2,a3⟩)
    ·exact .inl h1
    ·exact .inr ⟨q',a1,by omega,a3⟩
   ·rintro (h1 | ⟨q',a1,a2,a3⟩)
    ·exact .inl h1
    ·exact .inr ⟨q',a1,by omega,a3⟩
end Go.Dn

namespace Go.Dn
open Go
theorem ends_of {l:List Span} (hl:l ≠ []):∃ u v,at? l ((l.length:Int) - 1) = some u∧u.To = lstT l∧at? l 0 = some v∧v.From = fstT l:=by
 have hp:=List.length_pos_iff.2 hl
 refine ⟨l[l.length - 1]'(by omega),l[0]'hp,?_,?_,?_,?_⟩
 ·rw [show (l.length:Int) - 1 = ((l.length - 1:Nat):Int) by omega,at?_nat (by omega)]
 ·simp [lstT,Y0B,Y2 (show l.length - 1 < l.length by omega)]
 ·exact at?_nat (k:=0) hp
 ·simp [fstT,List.head?_eq_getElem?,Y2 hp]
noncomputable def lowQ (f:Form) (j:Int):Int:=(-1200 - lstT (cs f j)) / f.Period
noncomputable def highQ (f:Form) (j:Int):Int:=(1200 - fstT (cs f j)) / f.Period
def CoreM (f:Form) (r z:Int):Prop:=∃ j,0≤j∧j < r∧cs f j ≠ []∧∃ q,lowQ f j≤q∧q≤highQ f j + 1∧z = q * f.Count + j∧Z0s f z
theorem per_pos {f:Form} (h:CloseF f) (h0:0 < f.Count):0 < f.Period:=by
 have h1:=h.near.right.shape.per
 have h2:=h.near.right.shape.zero
 have:f.Period ≠ 0:=fun hh => by have:=h2.2 hh;omega
 omega
theorem Z6X {f:Form} (h:CloseF f) (h0:0 < f.Count) {j:Int} (j0:0≤j) (j1:j < f.Count) (hn:cs f j ≠ []):(-30≤fstT (cs f j)∧lstT (cs f j)≤30∧fstT (cs f j)≤lstT (cs f j))∧-1300≤lowQ f j∧highQ f j≤1300∧lowQ f j≤highQ f j + 2:=by
 have hP:=per_pos h h0
 have hcl:=h.near.right.shape.count
 have hm:cs f j ∈ f.Core:=by
  rw [Z2L j0 j1];have hj:j.toNat < f.Core.length:=by omega
  rw [YI,Y2 hj];exact YF hj
 have hb:=h.hull _ hm hn
 have hle:=Z13 (h.near.right.shape.core _ hm) hn
 refine ⟨⟨hb.1,hb.2,hle⟩,?_,?_,?_⟩
 ·apply Y0H hP;have:=Int.mul_le_mul_of_nonpos_left (a:=-1300) (b:=f.Period) (c:=1) (by omega) (by omega)
  omega
 ·apply Y0c hP;have:=YD (a:=1) (b:=f.Period) (c:=1300) (by omega) (by omega)
  omega
 ·have:lowQ f j≤highQ f j:=Int.ediv_le_ediv hP (by omega)
  omega
theorem over_s0 {f:Form} (h:CloseF f) (h0:0≤f.Count):∃ P,loopO (ZP.s0 f win) ([],0) = some P∧P.Pairwise (· < ·)∧(∀ z,z ∈ P ↔ CoreM f f.Count z)∧P.length≤40000:=by
 have hc12:f.Count≤12:=by have:=h.near.small.1;have:=h.near.right.shape.count;omega
 have hcl:=h.near.right.shape.count
 have key:=Zv (step:=ZP.s0 f win) (I:=fun s => ∃ (k:Nat) (P:List Int),s = (P,(k:Int))∧(k:Int)≤f.Count∧P.Pairwise (· < ·)∧(∀ z,z ∈ P ↔ CoreM f k z)∧P.length≤3000 * k) (fun s => (f.Count - s.2).toNat)
  (fun P => P.Pairwise (· < ·)∧(∀ z,z ∈ P ↔ CoreM f f.Count z)∧P.length≤40000) ?_ ([],0) ⟨0,[],rfl,h0,List.Pairwise.nil,fun z => ⟨fun hz => (by cases hz),fun ⟨j,a,b,_⟩ => by simp only [Int.natCast_zero] at b;omega⟩,by simp⟩
 ·exact key
 ·rintro _ ⟨k,P,rfl,hk,hs,hmem,hlen⟩;unfold ZP.s0;simp only []
  by_cases hlt:(k:Int) < f.Count
  ·have hkl:k < f.Core.length:=by omega
   have hcsk:cs f k = f.Core[k]:=by
    rw [Z2L (by omega) hlt,Yo,YI,Y2 hkl];rfl
   rw [ZK hlt,cond_true,at?_nat hkl,← hcsk];have hl64:((cs f k).length:Int) < 4611686018427387904:=by
    rw [hcsk];exact Z1I (b:=15) (h.near.lim.sets _ (YF hkl)).1
   have hw:w64 ((k:Int) + 1) = ((k + 1:Nat):Int):=by rw [Z9 (by omega)];push_cast;rfl
   rw [hw];simp only [Y0];have step:∀ z,CoreM f ((k + 1:Nat):Int) z ↔ CoreM f k z∨(cs f k ≠ []∧∃ q,lowQ f k≤q∧q≤highQ f k + 1∧z = q * f.Count + k∧Z0s f z):=by
    intro z
    constructor
    ·rintro ⟨j,a1,a2,a3⟩
     by_cases hj:j = k
     ·subst hj;exact .inr a3
     ·exact .inl ⟨j,a1,by push_cast at a2;omega,a3⟩
    ·rintro (⟨j,a1,a2,a3⟩ | a3)
     ·exact ⟨j,a1,by push_cast;omega,a3⟩
     ·exact ⟨k,by omega,by push_cast;omega,a3⟩
   by_cases he:cs f k = []
   ·have:(((cs f k).length:Int) == 0) = true:=by rw [he];rfl
    rw [this,cond_true];refine .inl ⟨_,rfl,⟨k + 1,P,rfl,by push_cast;omega,hs,fun z => ?_,by omega⟩,by simp only [];push_cast;omega⟩
    rw [hmem,step];exact ⟨.inl,fun hh => hh.elim id fun hh => absurd he hh.1⟩
   ·have hpos:=List.length_pos_iff.2 he
    rw [Z4i (by omega),cond_false,Z9 (x:=((cs f k).length:Int) - 1) (by omega)]
    obtain ⟨u,v,e1,e2,e3,e4⟩:=ends_of he
    have hP:=per_pos h (by omega)
    obtain ⟨⟨b1,b2,b3⟩,b4,b5,b6⟩:=Z6X h (by omega) (j:=(k:Int)) (by omega) hlt he
    have hper:=h.per
    rw [e1];simp only [Y0];rw [e2,Z9 (x:=-1200 - lstT (cs f k)) (by omega),Z6K (by unfold In64;omega) hP (by unfold In64;omega)]
    simp only [Y0];rw [e3];simp only [Y0];rw [e4,Z9 (x:=1200 - fstT (cs f k)) (by omega),Z6K (by unfold In64;omega) hP (by unfold In64;omega)]
    simp only [Y0];obtain ⟨Q,eQ,sQ,mQ,lQ⟩:=over_s1 h (by omega) (r:=(k:Int)) (low:=lowQ f k) (hi:=highQ f k) ⟨by omega,hlt⟩ (s1:=(P,(k:Int))) (x5:=(highQ f k,(1200 - fstT (cs f k)) % f.Period)) rfl rfl b4 b5 b6 hs (by omega)
    have eQ':loopO (ZP.s1 f win (P,(k:Int)) ((1200 - fstT (cs f k)) / f.Period,(1200 - fstT (cs f k)) % f.Period)) (P,(-1200 - lstT (cs f k)) / f.Period) = some Q:=eQ
    rw [eQ'];refine .inl ⟨_,rfl,⟨k + 1,Q,rfl,by push_cast;omega,sQ,fun z => ?_,by omega⟩,by simp only [];push_cast;omega⟩
    rw [mQ,hmem,step]
    constructor
    ·rintro (h1 | h1)
     ·exact .inl h1
     ·exact .inr ⟨he,h1⟩
    ·rintro (h1 | h1)
     ·exact .inl h1
     ·exact .inr h1.2
  ·have:(k:Int) = f.Count:=by omega
   rw [ZJ hlt,cond_false];rw [this] at hmem;exact .inr ⟨P,rfl,hs,hmem,by omega⟩
theorem over_s2 {f:Form} (h:CloseF f) {P0:List Int} (hs0:P0.Pairwise (· < ·)) (hl0:P0.length≤40000):∃ P,loopO (ZP.s2 f win) (P0,0) = some P∧P.Pairwise (· < ·)∧(∀ z,z ∈ P ↔ z ∈ P0∨(ZT f z∧Z0s f z))∧P.length≤50000:=by
 have ho8:=h.near.small.2.1
 have key:=Zv (step:=ZP.s2 f win) (I:=fun s => ∃ (k:Nat) (P:List Int),s = (P,(k:Int))∧k≤f.Odd.length∧P.Pairwise (· < ·)∧(∀ z,z ∈ P ↔ z ∈ P0∨((∃ g ∈ f.Odd.take k,g.Index = z)∧Z0s f z))∧P.length≤P0.length + k) (fun s => f.Odd.length - s.2.toNat)
  (fun P => P.Pairwise (· < ·)∧(∀ z,z ∈ P ↔ z ∈ P0∨(ZT f z∧Z0s f z))∧P.length≤50000) ?_ (P0,0) ⟨0,P0,rfl,YN _,hs0,fun z => by simp,by omega⟩
 ·exact key
 ·rintro _ ⟨k,P,rfl,hk,hs,hmem,hlen⟩;unfold ZP.s2;simp only []
  by_cases hlt:k < f.Odd.length
  ·have hb:=h.odd _ (YF hlt)
   have htk:f.Odd.take (k + 1) = f.Odd.take k ++ [f.Odd[k]]:=by rw [List.take_add_one,Y2 hlt];rfl
   have hw:w64 ((k:Int) + 1) = ((k + 1:Nat):Int):=by rw [Z9 (by omega)];push_cast;rfl
   rw [ZK (by omega),cond_true,at?_nat hlt,hw]
   generalize f.Odd[k] = g at hb htk;simp only [Y0];have step:∀ z,(∃ g' ∈ f.Odd.take (k + 1),g'.Index = z) ↔ (∃ g' ∈ f.Odd.take k,g'.Index = z)∨g.Index = z:=by
    intro z;rw [htk]
    constructor
    ·rintro ⟨g',h1,h2⟩
     rcases List.mem_append.1 h1 with h1 | h1
     ·exact .inl ⟨g',h1,h2⟩
     ·rw [YK] at h1;subst h1;exact .inr h2
    ·rintro (⟨g',h1,h2⟩ | h2)
     ·exact ⟨g',YX _ h1,h2⟩
     ·exact ⟨g,YS _ (List.mem_singleton.2 rfl),h2⟩
   rcases meets_eq h (i:=g.Index) (by omega) with ⟨e,hn⟩ | ⟨e,hn⟩
   ·have l1:=Z85 false P g.Index
    rw [e];simp only [Y0,cond_true];rw [ZBR (by omega)]
    refine .inl ⟨_,rfl,⟨k + 1,_,rfl,hlt,Z4h _ _ hs,fun z => ?_,by omega⟩,by simp only [Yo];omega⟩
    rw [Z6Y,hmem,step]
    constructor
    ·rintro ((h1 | h1) | h1)
     ·exact .inl h1
     ·exact .inr ⟨.inl h1.1,h1.2⟩
     ·exact .inr ⟨.inr h1.symm,h1 ▸ hn⟩
    ·rintro (h1 | ⟨h1 | h1,h2⟩)
     ·exact .inl (.inl h1)
     ·exact .inl (.inr ⟨h1,h2⟩)
     ·exact .inr h1.symm
   ·rw [e];simp only [Y0,cond_false];refine .inl ⟨_,rfl,⟨k + 1,P,rfl,hlt,hs,fun z => ?_,by omega⟩,by simp only [Yo];omega⟩
    rw [hmem,step]
    constructor
    ·rintro (h1 | h1)
     ·exact .inl h1
     ·exact .inr ⟨.inl h1.1,h1.2⟩
    ·rintro (h1 | ⟨h1 | h1,h2⟩)
     ·exact .inl h1
     ·exact .inr ⟨h1,h2⟩
     ·exact absurd (h1 ▸ h2) hn
  ·have:k = f.Odd.length:=by omega
   subst this;rw [ZJ (by omega),cond_false]
   rw [YO] at hmem;exact .inr ⟨P,rfl,hs,hmem,by omega⟩
theorem near_core {f:Form} (h:CloseF f) {z:Int} (hz:Z0s f z) (ho:¬ ZT f z):CoreM f f.Count z:=by
 obtain ⟨t,⟨u,hu,u1,u2⟩,t1,t2⟩:=hz
 have hn:Z1 f z ≠ []:=Y06 hu
 obtain ⟨h0,_,_⟩:=h.near.Z3F ho hn
 have hP:=per_pos h h0
 have hcs:=Z0L h0 ho
 obtain ⟨j,q,j0,j1,ez,e⟩:=Z1F h0 z
 have hu':=hu
 rw [hcs,e] at hu'
 obtain ⟨u0,hu0,rfl⟩:=List.mem_map.1 hu'
 have hnj:cs f j ≠ []:=Y06 hu0
 have hw:=Z4f (Z1s h.near.right.shape h0 j0 j1) u0 hu0
 simp only [ZR] at u1 u2
 refine ⟨j,j0,j1,hnj,q,?_,?_,by rw [ez,Yn];omega,⟨t,⟨_,hu,by simp only [ZR];omega,by simp only [ZR];omega⟩,t1,t2⟩⟩
 ·exact Y0c hP (by omega)
 ·have:q≤highQ f j:=Y0H hP (by omega)
  omega
theorem over_eq15 {f:Form} (h:CloseF f):∃ P,ZP f win = some P∧P.Pairwise (· < ·)∧(∀ z,z ∈ P ↔ Z0s f z)∧P.length≤50000:=by
 have h0:0≤f.Count:=by have:=h.near.right.shape.count;omega
 obtain ⟨P,e1,s1,m1,l1⟩:=over_s0 h h0
 obtain ⟨Q,e2,s2,m2,l2⟩:=over_s2 h s1 l1
 unfold ZP
 rw [e1,Y0,e2,Y0]
 refine ⟨Q,rfl,s2,fun z => ?_,l2⟩
 rw [m2,m1]
 constructor
 ·rintro (⟨j,_,_,_,q,_,_,_,hz⟩ | hz)
  ·exact hz
  ·exact hz.2
 ·intro hz
  by_cases ho:ZT f z
  ·exact .inr ⟨ho,hz⟩
  ·exact .inl (near_core h hz ho)
theorem near_idx {f:Form} (h:CloseF f) {z:Int} (hz:Z0s f z) : -20000≤z∧z≤20000:=by
 by_cases ho:ZT f z
 ·obtain ⟨g,hg,rfl⟩:=ho
  have:=h.odd g hg;omega
 ·obtain ⟨j,j0,j1,hn,q,q0,q1,rfl,_⟩:=near_core h hz ho
  have hc12:f.Count≤12:=by have:=h.near.small.1;have:=h.near.right.shape.count;omega
  obtain ⟨_,b4,b5,_⟩:=Z6X h (by omega) j0 j1 hn
  have m1 : -1300 * f.Count≤q * f.Count:=YE (by omega) (by omega)
  have m2:q * f.Count≤1301 * f.Count:=YE (by omega) (by omega)
  omega
noncomputable def plOf (f:Form) (z:Int):Pl:=⟨z,fstT (Z1 f z),lstT (Z1 f z)⟩
theorem Z3X {f:Form} {z:Int} (hz:Z0s f z):Z1 f z ≠ []:=by
 obtain ⟨t,⟨u,hu,_⟩,_⟩:=hz
 exact Y06 hu
theorem near_eq22 {f:Form} (h:CloseF f):∃ P:List Int,Z0a f = some (P.map (plOf f))∧P.Pairwise (· < ·)∧(∀ z,z ∈ P ↔ Z0s f z)∧P.length≤50000:=by
 have hr:=Z3a
 obtain ⟨P,e,hs,hm,hl⟩:=over_eq15 h
 have e':ZP f ⟨-1200,1200⟩ = some P:=e
 unfold Z0a
 rw [e',Y0]
 refine ⟨P,?_,hs,hm,hl⟩
 have key:=Z1L (step:=Z0a.s0 f P) (I:=fun s r => r = P.map (plOf f)∧∃ k:Nat,k≤P.length∧s = ((k:Int),(P.take k).map (plOf f))) (fun s => P.length - s.1.toNat) ?_ (s:=(0,[])) (r:=P.map (plOf f)) ⟨rfl,0,YN _,rfl⟩
 ·rw [key];rfl
 ·rintro _ r ⟨rfl,k,hk,rfl⟩;unfold Z0a.s0;simp only []
  by_cases hlt:k < P.length
  ·have hz:=(hm _).1 (YF hlt)
   have htk:P.take (k + 1) = P.take k ++ [P[k]]:=by rw [List.take_add_one,Y2 hlt];rfl
   have hi:=near_idx h hz
   have hne:=Z3X hz
   have hpos:=List.length_pos_iff.2 hne
   have hlen:=set_len h P[k]
   obtain ⟨u,v,e1,e2,e3,e4⟩:=ends_of hne
   rw [ZK (by omega),cond_true,at?_nat hlt]
   simp only [Y0];rw [get05c_eq h hi];simp only [Y0];rw [e3];simp only [Y0];rw [Z9 (x:=((Z1 f P[k]).length:Int) - 1) (by omega),e1]
   simp only [Y0];rw [app?_ok (by simp;omega)]
   simp only [Y0];rw [Z9 (x:=(k:Int) + 1) (by omega),e2,e4]
   refine .inl ⟨_,rfl,⟨trivial,k + 1,hlt,?_⟩,by simp only [];omega⟩
   rw [htk,Y05]
   push_cast
   rfl
  ·have:k = P.length:=by omega
   subst this;rw [ZJ (by omega),cond_false,YO]
   exact .inr rfl
end Go.Dn
