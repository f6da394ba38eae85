/- Part 6 of what the row stands on. -/
import Derived.Test.YtfknindefmcgdaaGreatM5
set_option linter.unusedVariables false
set_option linter.unusedSimpArgs false
namespace Go.Dn
open Go
theorem Z9t {i b k:Int} (hb:b = 1∨b = -1):i + dst i b k * b = k:=by
 unfold dst
 rcases hb with rfl | rfl <;> omega
theorem dst_at {i b x:Int} (hb:b = 1∨b = -1):dst i b (i + x * b) = x:=by
 unfold dst
 rcases hb with rfl | rfl <;> omega
theorem far_near {f:Form} (hs:Shape f) {i b k:Int} (hb:b = 1∨b = -1) (ho:¬ Z12 f k) (hne:ZH f k ≠ []) {F:Nat} (hF:(F:Int) = f.Count * ((f.Odd.length:Int) + 1) + 2) (hk:(F:Int)≤dst i b k) :
  ∃ K:Nat,K < F∧ZH f (i + (K:Int) * b) ≠ []:=by
 have h0:f.Count ≠ 0:=fun h0 => hne (Z2M ho h0)
 have hC:=Z84 hs h0
 generalize hD:dst i b k = D at hk
 have hmod:=Ym D h0
 have hmod2:=Ys D hC
 obtain ⟨t,ht,hnm⟩:=pigeon (f.Odd.map (·.Index)) (fun t => i + (D % f.Count + (t:Int) * f.Count) * b) (fun x y h => by
  have h1:(x:Int) * f.Count = (y:Int) * f.Count:=by
   have h:i + (D % f.Count + (x:Int) * f.Count) * b = i + (D % f.Count + (y:Int) * f.Count) * b:=h
   generalize (x:Int) * f.Count = X at h ⊢;generalize (y:Int) * f.Count = Y at h ⊢
   rcases hb with rfl | rfl <;> omega
  have:=Int.eq_of_mul_eq_mul_right h0 h1
  omega)
 rw [YJ] at ht
 have hno:¬ Z12 f (i + (D % f.Count + (t:Int) * f.Count) * b):=fun ⟨g,hg,he⟩ => hnm (List.mem_map.2 ⟨g,hg,he⟩)
 have hle:(t:Int) * f.Count≤(f.Odd.length:Int) * f.Count:=YH (by omega) (by omega)
 have hpos:0≤(t:Int) * f.Count:=Yr (by omega) (by omega)
 have hF':(F:Int) = (f.Odd.length:Int) * f.Count + f.Count + 2:=by rw [hF,Y18,Int.mul_one,Yt]
 refine ⟨(D % f.Count + (t:Int) * f.Count).toNat,by omega,?_⟩
 have e1:(((D % f.Count + (t:Int) * f.Count).toNat:Nat):Int) = D % f.Count + (t:Int) * f.Count:=by omega
 rw [e1]
 have hcore:Z0f f k ≠ []:=fun h => hne ((Z1Z ho h0).2 h)
 intro h
 refine hcore ?_
 have h2:=(Z1Z hno h0).1 h
 have hmm:(i + (D % f.Count + (t:Int) * f.Count) * b) % f.Count = k % f.Count:=by
  have hkk:k = i + D * b:=by rw [← hD];exact (Z9t hb).symm
  have hdd:f.Count * (D / f.Count) + D % f.Count = D:=Int.mul_ediv_add_emod D f.Count
  have:k = (i + (D % f.Count + (t:Int) * f.Count) * b) + f.Count * ((D / f.Count - t) * b):=by
   rw [hkk]
   conv => lhs;rw [← hdd]
   have e2:f.Count * ((D / f.Count - (t:Int)) * b) = f.Count * (D / f.Count) * b - (t:Int) * f.Count * b:=by
    rw [Int.sub_mul,Int.mul_sub,← Yp,← Yp,Yt f.Count (t:Int)]
   rw [e2,Y0G,Y0G];omega
  rw [this,Int.add_mul_emod_self_left]
 unfold Z0f at h2 ⊢
 rw [← hmm]
 exact h2
theorem Z38 {f:Form} (hl:Lim f) (hs:Shape f) (hnl:¬ Z22 f) {i b:Int} (hi:Z3 i) (hb:b = 1∨b = -1):∃ r,ZU f i b = some r∧NextS f i b r:=by
 obtain ⟨n1,n2,_,_⟩:=Z6q hnl
 have hcnt:=hs.count
 have hi':=hi
 unfold Z3 at hi'
 obtain ⟨F,hF⟩ : ∃ F:Nat,(F:Int) = f.Count * ((f.Odd.length:Int) + 1) + 2:=⟨(f.Count * ((f.Odd.length:Int) + 1) + 2).toNat,by
  have:=Yr (show 0≤f.Count by omega) (show 0≤(f.Odd.length:Int) + 1 by omega)
  omega⟩
 have hFb:(F:Int)≤36006002:=by
  have:=Int.mul_le_mul (show f.Count≤6000 by omega) (show (f.Odd.length:Int) + 1≤6001 by omega) (by omega) (by omega)
  omega
 have hfar:Z2Y f = (F:Int):=by
  unfold Z2Y;rw [Z1 (x:=(f.Odd.length:Int) + 1) (by omega),Z1 (x:=f.Count * ((f.Odd.length:Int) + 1)) (by omega),Z1 (by omega),hF]
 obtain ⟨fd0,at0,e0,h0⟩:=next_odd hs n2 hi hb
 -- what is known when the search is over
 have fin:∀ (fd:Bool) (at':Int) (K:Nat),((fd = false∧at' = 0∧(∀ g ∈ f.Odd,g.Ticks ≠ []→dst i b g.Index < 0)∧∀ k':Nat,k' < K→ZH f (i + (k':Int) * b) = []) ∨
   (fd = true∧0≤dst i b at'∧Z3 at'∧ZH f at' ≠ []∧(∀ g ∈ f.Odd,g.Ticks ≠ []→0≤dst i b g.Index→dst i b at'≤dst i b g.Index)∧∀ k':Nat,k' < K→ZH f (i + (k':Int) * b) ≠ []→dst i b at'≤k')) →
   (∀ k,(K:Int)≤dst i b k→Z3 k→ZH f k ≠ []→¬ Z12 f k→∃ K':Nat,K' < K∧ZH f (i + (K':Int) * b) ≠ [])→NextS f i b (at',fd):=by
  intro fd at' K hI hfarK
  rcases hI with ⟨rfl,rfl,ho,hsc⟩ | ⟨rfl,h1,h2,h3,ho,hsc⟩
  ·refine .inr ⟨rfl,rfl,fun k hk htk => ?_⟩
   apply Classical.byContradiction;intro hne
   by_cases hod:Z12 f k
   ·obtain ⟨g,hg,rfl⟩:=hod
    rw [Z1Q hs.inc hg] at hne;have:=ho g hg hne
    omega
   ·by_cases hlt:dst i b k < K
    ·have:=hsc (dst i b k).toNat (by omega)
     rw [show (((dst i b k).toNat:Nat):Int) = dst i b k by omega,Z9t hb] at this
     exact hne this
    ·obtain ⟨K',q1,q2⟩:=hfarK k (by omega) htk hne hod
     exact q2 (hsc K' q1)
  ·refine .inl ⟨rfl,h1,h2,h3,fun k hk htk hne => ?_⟩
   by_cases hod:Z12 f k
   ·obtain ⟨g,hg,rfl⟩:=hod
    rw [Z1Q hs.inc hg] at hne;exact ho g hg hne hk
   ·by_cases hlt:dst i b k < K
    ·have:=hsc (dst i b k).toNat (by omega)
     rw [show (((dst i b k).toNat:Nat):Int) = dst i b k by omega,Z9t hb] at this
     exact this hne
    ·obtain ⟨K',q1,q2⟩:=hfarK k (by omega) htk hne hod
     have:=hsc K' q1 q2
     show dst i b at'≤dst i b k
     omega
 have key:=Z0Y (step:=ZU.s1 f i b) (I:=fun s => ∃ (fd:Bool) (at':Int) (k:Nat),s = (fd,at',(k:Int))∧k≤F∧((fd = false∧at' = 0∧(∀ g ∈ f.Odd,g.Ticks ≠ []→dst i b g.Index < 0)∧∀ k':Nat,k' < k→ZH f (i + (k':Int) * b) = []) ∨
   (fd = true∧0≤dst i b at'∧Z3 at'∧ZH f at' ≠ []∧(∀ g ∈ f.Odd,g.Ticks ≠ []→0≤dst i b g.Index→dst i b at'≤dst i b g.Index)∧∀ k':Nat,k' < k→ZH f (i + (k':Int) * b) ≠ []→dst i b at'≤k')))
  (fun s => F - s.2.2.toNat) (fun r => NextS f i b (r.2,r.1)) ?_ (fd0,at0,0) ⟨fd0,at0,0,rfl,YS _,?_⟩
 ·obtain ⟨r,e,h⟩:=key
  refine ⟨(r.2,r.1),?_,h⟩;unfold ZU;rw [e0];simp only [Y0];rw [e]
  rfl
 ·rintro _ ⟨fd,at',k,rfl,hk,hI⟩;unfold ZU.s1;simp only [hfar]
  by_cases hlt:k < F
  ·rw [ZC (show (k:Int) < (F:Int) by omega),cond_true]
   have hw1:w64 ((k:Int) * b) = (k:Int) * b:=Z1 (by rcases hb with rfl | rfl <;> omega)
   have hw2:w64 (i + (k:Int) * b) = i + (k:Int) * b:=Z1 (by rcases hb with rfl | rfl <;> omega)
   rw [hw1,hw2]
   by_cases hout:i + (k:Int) * b < -1099511627776∨i + (k:Int) * b > 1099511627776
   ·have:((decide (i + (k:Int) * b < (-1099511627776))) || (decide (i + (k:Int) * b > 1099511627776))) = true:=by simpa using hout
    rw [this];simp only [cond_true,Y0,Jx.elim];refine .inr ⟨_,rfl,fin fd at' k hI fun k' hk' htk hne hod => ?_⟩
    exfalso
    have hkk:=Z9t (i:=i) (k:=k') hb
    generalize dst i b k' = D at hk' hkk;unfold Z3 at htk
    rcases hb with rfl | rfl <;> omega
   ·have:((decide (i + (k:Int) * b < (-1099511627776))) || (decide (i + (k:Int) * b > 1099511627776))) = false:=by
     rw [Bool.eq_false_iff];intro h;simp only [Yb,decide_eq_true_eq] at h;exact hout h
    have htk:Z3 (i + (k:Int) * b):=by unfold Z3;omega
    rw [this];simp only [cond_false];rw [ref05_Has_all hl hs (Z0M htk)];simp only [Y0];have hdk:=dst_at (i:=i) (x:=(k:Int)) hb
    rcases hI with ⟨rfl,rfl,ho,hsc⟩ | ⟨rfl,h1,h2,h3,ho,hsc⟩
    ·simp only [Yq,Bool.true_or,Bool.and_true]
     by_cases hne:ZH f (i + (k:Int) * b) ≠ []
     ·rw [ZC hne];simp only [cond_true,Y0,Jx.elim];refine .inl ⟨_,rfl,⟨true,i + (k:Int) * b,k + 1,?_,hlt,.inr ⟨rfl,by omega,htk,hne,fun g hg hgn h0 => ?_,fun k' hk' hne' => ?_⟩⟩,?_⟩
      ·rw [Z1 (by omega)];push_cast;rfl
      ·have:=ho g hg hgn;omega
      ·rw [hdk]
       rcases YF k' k with h | h
       ·exact absurd (hsc k' h) hne'
       ·omega
      ·simp only [];rw [Z1 (by omega)];omega
     ·rw [ZB hne];simp only [cond_false,Y0,Jx.elim];refine .inl ⟨_,rfl,⟨false,0,k + 1,?_,hlt,.inl ⟨rfl,rfl,ho,fun k' hk' => ?_⟩⟩,?_⟩
      ·rw [Z1 (by omega)];push_cast;rfl
      ·rcases YF k' k with h | h
       ·exact hsc k' h
       ·have:k' = k:=by omega
        subst this;exact Classical.byContradiction hne
      ·simp only [];rw [Z1 (by omega)];omega
    ·have h2':=h2
     unfold Z3 at h2' htk;have hw3:w64 ((w64 ((i + (k:Int) * b) - at')) * b) = (k:Int) - dst i b at':=by
      rw [Z1 (x:=(i + (k:Int) * b) - at') (by omega)]
      unfold dst
      rcases hb with rfl | rfl <;> rw [Z1 (by omega)] <;> omega
     rw [hw3];simp only [YQ,Y0R]
     by_cases hc:ZH f (i + (k:Int) * b) ≠ []∧(k:Int) - dst i b at' < 0
     ·rw [ZC hc.1,ZC hc.2];simp only [Y0E,cond_true,Y0,Jx.elim];refine .inl ⟨_,rfl,⟨true,i + (k:Int) * b,k + 1,?_,hlt,.inr ⟨rfl,by omega,by unfold Z3;omega,hc.1,fun g hg hgn h0 => ?_,fun k' hk' hne' => ?_⟩⟩,?_⟩
      ·rw [Z1 (by omega)];push_cast;rfl
      ·have:=ho g hg hgn h0;omega
      ·rw [hdk]
       rcases YF k' k with h | h
       ·have:=hsc k' h hne';omega
       ·omega
      ·simp only [];rw [Z1 (by omega)];omega
     ·have:(decide (ZH f (i + (k:Int) * b) ≠ []) && decide ((k:Int) - dst i b at' < 0)) = false:=by
       rw [Bool.eq_false_iff];intro h;simp only [Y8,decide_eq_true_eq] at h;exact hc h
      rw [this];simp only [cond_false,Y0,Jx.elim];refine .inl ⟨_,rfl,⟨true,at',k + 1,?_,hlt,.inr ⟨rfl,h1,h2,h3,ho,fun k' hk' hne' => ?_⟩⟩,?_⟩
      ·rw [Z1 (by omega)];push_cast;rfl
      ·rcases YF k' k with h | h
       ·exact hsc k' h hne'
       ·have:k' = k:=by omega
        subst this;apply Classical.byContradiction;intro hn;exact hc ⟨hne',by omega⟩
      ·simp only [];rw [Z1 (by omega)];omega
  ·have:k = F:=by omega
   subst this;rw [ZB (by omega),cond_false]
   exact .inr ⟨_,rfl,fin fd at' k hI fun k' hk' htk hne hod => far_near hs hb hod hne hF hk'⟩
 ·rcases h0 with ⟨a,b',c⟩ | ⟨a,b',c,d,e⟩
  ·exact .inl ⟨a,b',c,fun k' h => absurd h (Y0f _)⟩
  ·exact .inr ⟨a,b',c,d,e,fun k' h => absurd h (Y0f _)⟩
theorem Z6f {f:Form} (hl:Lim f) (hs:Shape f) (hnl:¬ Z22 f) {i:Int} (hi:In64 i):Z1E f i = Z11 f i:=by
 obtain ⟨r,e,hr⟩:=Z1Y hl hs hi
 rw [e]
 have key:∃ r',Z1E f i = some r'∧Above f i r':=by
  unfold Z1E;have conv:∀ j r',NextS f j 1 r'→(∀ k,Z3 k→(0≤dst j 1 k ↔ i < k))→Above f i r':=fun j r' h hj => by
   rcases h with ⟨h1,h2,h3,h4,h5⟩ | ⟨h1,h2,h3⟩
   ·refine .inl ⟨h1,(hj _ h3).1 h2,h3,h4,fun k hk hkr htk => ?_⟩
    apply Classical.byContradiction;intro hne;have:=h5 k ((hj k htk).2 hk) htk hne
    unfold dst at this;omega
   ·exact .inr ⟨h1,h2,fun k hk htk => h3 k ((hj k htk).2 hk) htk⟩
  by_cases c1:i ≥ 1099511627776
  ·rw [ZC c1,cond_true];exact ⟨_,rfl,.inr ⟨rfl,rfl,fun k hk ht => by unfold Z3 at ht;omega⟩⟩
  ·rw [ZB c1,cond_false]
   by_cases c2:i < -1099511627776
   ·rw [ZC c2,cond_true];obtain ⟨r',e',h'⟩:=Z38 hl hs hnl (i:=-1099511627776) (b:=1) (by unfold Z3;omega) (.inl rfl)
    rw [e'];exact ⟨_,rfl,conv _ _ h' fun k hk => by unfold dst;unfold Z3 at hk;omega⟩
   ·rw [ZB c2,cond_false,Z1 (by omega)]
    obtain ⟨r',e',h'⟩:=Z38 hl hs hnl (i:=i + 1) (b:=1) (by unfold Z3;omega) (.inl rfl)
    rw [e'];exact ⟨_,rfl,conv _ _ h' fun k hk => by unfold dst;omega⟩
 obtain ⟨r',e',h'⟩:=key
 rw [e',h'.uniq hr]
theorem ZAM {f:Form} (hl:Lim f) (hs:Shape f) (hnl:¬ Z22 f) {i:Int} (hi:In64 i):Z1c f i = Z1W f i:=by
 obtain ⟨r,e,hr⟩:=Z2U hl hs hi
 rw [e]
 have key:∃ r',Z1c f i = some r'∧Under f i r':=by
  unfold Z1c;have conv:∀ j r',NextS f j (-1) r'→(∀ k,Z3 k→(0≤dst j (-1) k ↔ k < i))→Under f i r':=fun j r' h hj => by
   rcases h with ⟨h1,h2,h3,h4,h5⟩ | ⟨h1,h2,h3⟩
   ·refine .inl ⟨h1,(hj _ h3).1 h2,h3,h4,fun k hk hkr htk => ?_⟩
    apply Classical.byContradiction;intro hne;have:=h5 k ((hj k htk).2 hk) htk hne
    unfold dst at this;omega
   ·exact .inr ⟨h1,h2,fun k hk htk => h3 k ((hj k htk).2 hk) htk⟩
  by_cases c1:i≤-1099511627776
  ·rw [ZC c1,cond_true];exact ⟨_,rfl,.inr ⟨rfl,rfl,fun k hk ht => by unfold Z3 at ht;omega⟩⟩
  ·rw [ZB c1,cond_false]
   by_cases c2:i > 1099511627776
   ·rw [ZC c2,cond_true];obtain ⟨r',e',h'⟩:=Z38 hl hs hnl (i:=1099511627776) (b:=-1) (by unfold Z3;omega) (.inr rfl)
    rw [e'];exact ⟨_,rfl,conv _ _ h' fun k hk => by unfold dst;unfold Z3 at hk;omega⟩
   ·rw [ZB c2,cond_false,Z1 (by omega)]
    obtain ⟨r',e',h'⟩:=Z38 hl hs hnl (i:=i - 1) (b:=-1) (by unfold Z3;omega) (.inr rfl)
    rw [e'];exact ⟨_,rfl,conv _ _ h' fun k hk => by unfold dst;omega⟩
 obtain ⟨r',e',h'⟩:=key
 rw [e',h'.uniq hr]
end Go.Dn

namespace Go.Dn
open Go
theorem setAt_nl {f:Form} (hl:Lim f) (hs:Shape f) (hnl:¬ Z22 f) {i:Int} (hi:In64 i):(ZH f i).length≤60000:=by
 obtain ⟨_,_,n1,n2⟩:=Z6q hnl
 obtain ⟨l,q,e,hset,hr,hq,hpos,hwh⟩:=setX hl hs hi
 rw [hset,YJ]
 rcases hwh with rfl | h | ⟨g,h,rfl⟩
 ·simp
 ·exact n1 l h
 ·exact n2 g h
theorem Z8n {f:Form} (hl:Lim f) (hc:f.Core.length≤6000) (ho:f.Odd.length≤6000):Zy f = some (Z4e f:Int):=by
 have hr:=Z0g
 have bs:∀ (k:Nat),k≤f.Core.length→((f.Core.take k).map List.length).sum≤k * 9000000000000:=by
  intro k
  induction k with
  | zero => intro _;simp
  | succ k ih =>
   intro hk;rw [Z4c List.length (show k < f.Core.length by omega)]
   have h1:=ih (by omega)
   have h2:=(hl.sets _ (YE (show k < f.Core.length by omega))).1
   unfold Len at h2;omega
 have bo:∀ (k:Nat),k≤f.Odd.length→((f.Odd.take k).map fun g:Granule => g.Ticks.length).sum≤k * 9000000000000:=by
  intro k
  induction k with
  | zero => intro _;simp
  | succ k ih =>
   intro hk;rw [Z4c (fun g:Granule => g.Ticks.length) (show k < f.Odd.length by omega)]
   have h1:=ih (by omega)
   have h2:=(hl.ticks _ (YE (show k < f.Odd.length by omega))).2.1
   unfold Len at h2;omega
 have k0:loopO (Zy.s0 f) (0,0) = some (((f.Core.map List.length).sum:Nat):Int):=by
  refine Z0s (I:=fun s r => r = (((f.Core.map List.length).sum:Nat):Int)∧∃ k:Nat,k≤f.Core.length∧s = (((((f.Core.take k).map List.length).sum:Nat):Int),(k:Int))) (fun s => f.Core.length - s.2.toNat) ?_ ⟨rfl,0,YS _,rfl⟩
  rintro _ r ⟨rfl,k,hk,rfl⟩;unfold Zy.s0;simp only []
  by_cases hlt:k < f.Core.length
  ·rw [ZC (show (k:Int) < f.Core.length by omega),cond_true,at?_nat hlt]
   simp only [Y0];have h1:=bs (k + 1) hlt
   rw [Z4c List.length hlt] at h1;refine .inl ⟨_,rfl,⟨trivial,k + 1,hlt,?_⟩,?_⟩
   ·rw [Z1 (by omega),Z1 (by omega),Z4c List.length hlt]
    push_cast
    rfl
   ·rw [Z1 (x:=(k:Int) + 1) (by omega)]
    omega
  ·have:k = f.Core.length:=by omega
   subst this;rw [ZB (by omega),cond_false,Yg]
   exact .inr rfl
 have k1:loopO (Zy.s1 f) ((((f.Core.map List.length).sum:Nat):Int),0) = some (Z4e f:Int):=by
  have hb:=bs f.Core.length (YC _)
  rw [Yg] at hb;refine Z0s (I:=fun s r => r = (Z4e f:Int)∧∃ k:Nat,k≤f.Odd.length∧s = ((((f.Core.map List.length).sum + ((f.Odd.take k).map fun g:Granule => g.Ticks.length).sum:Nat):Int),(k:Int))) (fun s => f.Odd.length - s.2.toNat) ?_ ⟨rfl,0,YS _,rfl⟩
  rintro _ r ⟨rfl,k,hk,rfl⟩;unfold Zy.s1;simp only []
  by_cases hlt:k < f.Odd.length
  ·rw [ZC (show (k:Int) < f.Odd.length by omega),cond_true,at?_nat hlt]
   simp only [Y0];have h1:=bo (k + 1) hlt
   rw [Z4c (fun g:Granule => g.Ticks.length) hlt] at h1
   refine .inl ⟨_,rfl,⟨trivial,k + 1,hlt,?_⟩,?_⟩
   ·rw [Z1 (by omega),Z1 (by omega),Z4c (fun g:Granule => g.Ticks.length) hlt]
    push_cast
    congr 1
    omega
   ·rw [Z1 (x:=(k:Int) + 1) (by omega)]
    omega
  ·have:k = f.Odd.length:=by omega
   subst this;rw [ZB (by omega),cond_false,Yg]
   exact .inr rfl
 unfold Zy
 rw [k0]
 simp only [Y0]
 rw [k1]
 rfl
theorem ZCA {f:Form} (hl:Lim f) (hnl:¬ Z22 f):∃ b,Zh f = some b∧(b = true ↔ Shape f):=by
 obtain ⟨n1,n2,n3,n4⟩:=Z6q hnl
 unfold Zh
 by_cases hc:f.Count = f.Core.length∧0≤f.Period∧f.Period≤1099511627776∧(f.Count = 0 ↔ f.Period = 0)
 ·have:((((((f.Core.length:Int) != f.Count) || (decide (f.Period < 0))) || (decide (f.Period > 1099511627776))) || ((f.Count == 0) && (f.Period != 0))) || ((f.Count != 0) && (f.Period == 0))) = false:=by
   rw [Bool.eq_false_iff];intro h;simp only [Yb,Y8,bne_iff_ne,beq_iff_eq,decide_eq_true_eq,ne_eq] at h;omega
  rw [this,cond_false];have key:=Z1L (l:=f.Core) (step:=Zh.s0 f) (good:=fun _ l => RightL l) (yes:=.go ()) (no:=.ret false) (by
   intro k l hk _;obtain ⟨hkl,rfl⟩:=List.getElem?_eq_some_iff.1 hk
   have hm:=YE hkl
   unfold Zh.s0;rw [ZC (show (k:Int) < f.Core.length by omega),cond_true,at?_nat hkl]
   simp only [Y0]
   rcases Z7v (l:=f.Core[k]) (by have:=n3 _ hm;omega) (hl.sets _ hm).2 with ⟨e,h⟩ | ⟨e,h⟩
   ·rw [e];simp only [Y0,YQ,cond_false];rw [Z1 (by omega)]
    exact .inl ⟨rfl,h⟩
   ·rw [e];exact .inr ⟨rfl,h⟩) (by unfold Zh.s0;rw [ZB (by omega),cond_false])
  rcases key with ⟨k1,c1⟩ | ⟨k1,c1⟩
  ·rw [k1];simp only [Y0,Jx.elim];have key2:=Z1L (l:=f.Odd) (step:=Zh.s1 f) (good:=ZAD f) (yes:=.go ()) (no:=.ret false) (by
    intro k g hk _;obtain ⟨hkl,rfl⟩:=List.getElem?_eq_some_iff.1 hk
    have hm:=YE hkl
    obtain ⟨t1,t2,t3⟩:=hl.ticks _ hm
    unfold Zh.s1;rw [ZC (show (k:Int) < f.Odd.length by omega),cond_true,at?_nat hkl]
    simp only [Y0];have hgd:∀ {P:Prop},P→P:=fun h => h
    rcases Z7v (l:=f.Odd[k].Ticks) (by have:=n4 _ hm;omega) t3 with ⟨e,h⟩ | ⟨e,h⟩
    ·rw [e];simp only [Y0,YQ,Y0R]
     by_cases ht:Z3 f.Odd[k].Index
     ·have ht':=ht
      unfold Z3 at ht';rw [ZB (show ¬ f.Odd[k].Index < -1099511627776 by omega),ZB (show ¬ f.Odd[k].Index > 1099511627776 by omega)]
      simp only [Y0o,cond_false]
      by_cases h0:k = 0
      ·subst h0;rw [ZB (show ¬ ((0:Nat):Int) > 0 by omega)]
       simp only [cond_false,Y0];rw [Z1 (by omega)]
       exact .inl ⟨rfl,h,ht,fun p h => absurd rfl h⟩
      ·have hkl1:k - 1 < f.Odd.length:=by omega
       have ek:w64 ((k:Int) - 1) = ((k - 1:Nat):Int):=by rw [Z1 (by omega)];omega
       rw [ZC (show (k:Int) > 0 by omega),cond_true,ek,at?_nat hkl1]
       simp only [Y0]
       by_cases hlt:f.Odd[k].Index≤f.Odd[k - 1].Index
       ·rw [ZC hlt,cond_true];exact .inr ⟨rfl,fun hg => by have:=hg.2.2 _ h0 (Y2 hkl1);omega⟩
       ·rw [ZB hlt,cond_false,Z1 (by omega)]
        refine .inl ⟨rfl,h,ht,fun p _ hp => ?_⟩
        rw [Y2 hkl1,Y5] at hp;rw [← hp];omega
     ·have:(decide (f.Odd[k].Index < (-1099511627776)) || decide (f.Odd[k].Index > 1099511627776)) = true:=by
       unfold Z3 at ht
       simp
       omega
      rw [this];exact .inr ⟨rfl,fun hg => ht hg.2.1⟩
    ·rw [e];exact .inr ⟨rfl,fun hg => h hg.1⟩) (by unfold Zh.s1;rw [ZB (by omega),cond_false])
   rcases key2 with ⟨k2,c2⟩ | ⟨k2,c2⟩
   ·rw [k2];refine ⟨true,rfl,fun _ => ⟨hc.1,hc.2.2.2,⟨hc.2.1,hc.2.2.1⟩,fun l hm => ?_,fun g hm => ?_,inc_of c2⟩,fun _ => rfl⟩
    ·obtain ⟨j,hj⟩:=YB hm
     exact c1 j l hj
    ·obtain ⟨j,hj⟩:=YB hm
     exact ⟨(c2 j g hj).1,(c2 j g hj).2.1⟩
   ·rw [k2];refine ⟨false,rfl,fun h => (by cases h),fun h => absurd (fun k g hk => ?_) c2⟩
    have hm:=Y6 hk
    exact ⟨(h.odd g hm).1,(h.odd g hm).2,fun p h0 hp => h.inc (k - 1) k p g (by omega) hp hk⟩
  ·rw [k1];exact ⟨false,rfl,fun h => (by cases h),fun h => absurd (fun k l hk => h.core l (Y6 hk)) c1⟩
 ·have:((((((f.Core.length:Int) != f.Count) || (decide (f.Period < 0))) || (decide (f.Period > 1099511627776))) || ((f.Count == 0) && (f.Period != 0))) || ((f.Count != 0) && (f.Period == 0))) = true:=by
   simp only [Yb,Y8,bne_iff_ne,beq_iff_eq,decide_eq_true_eq,ne_eq];omega
  rw [this,cond_true];exact ⟨false,rfl,fun h => (by cases h),fun h => absurd ⟨h.count,h.per.1,h.per.2,h.zero⟩ hc⟩
def Z2e (f:Form) (k:Nat):List (List Span):=(f.Core.take k).filter (fun l => decide (l.length > 0))
theorem fullK_succ {f:Form} {k:Nat} (h:k < f.Core.length):Z2e f (k + 1) = if f.Core[k] = [] then Z2e f k else Z2e f k ++ [f.Core[k]]:=by
 unfold Z2e
 rw [← Yc h,Y0Z]
 cases hc:f.Core[k] with
 | nil => simp
 | cons a l => simp
theorem ZAL {f:Form}:Z2e f f.Core.length = full f:=by
 unfold Z2e full
 rw [Yg]
theorem fullK_pre {f:Form} {k:Nat}:∃ r,full f = Z2e f k ++ r:=by
 unfold Z2e full
 exact ⟨(f.Core.drop k).filter (fun l => decide (l.length > 0)),by rw [← Y0Z,Y0b]⟩
def ChainL (F:List (List Span)):Prop:=∀ (k:Nat) (a b:List Span),F[k]? = some a→F[k + 1]? = some b→lstT a < fstT b
theorem ref05_turn_eq {f:Form} (hl:Lim f) (hs:Shape f) (hnl:¬ Z22 f):∃ b,Z0k (Z0x f) = some b∧(b = true ↔ Turns f):=by
 obtain ⟨n1,n2,n3,n4⟩:=Z6q hnl
 have hper:=hs.per
 have hne:∀ {k:Nat} {l:List Span},l ∈ Z2e f k→l ≠ []∧RightL l∧l ∈ f.Core:=fun {k l} h => by
  unfold Z2e at h;rw [List.mem_filter] at h;have hm:=Yo h.1
  refine ⟨fun e => ?_,hs.core _ hm,hm⟩
  rw [e] at h;simp at h
 have key:=Z0Y (step:=Z0k.s0 (Z0x f)) (I:=fun s => ∃ (first:Int) (last:List Span) (k:Nat),s = (first,last,(k:Int))∧k≤f.Core.length∧ChainL (Z2e f k) ∧
   ((Z2e f k = []∧first = -1∧last = [])∨(∃ j:Nat,first = (j:Int)∧∃ h:j < f.Core.length,(Z2e f k).head? = some f.Core[j]∧(Z2e f k).getLast? = some last)))
  (fun s => f.Core.length - s.2.2.toNat)
  (fun r => (∃ (first:Int) (last:List Span),r = .go (first,last)∧ChainL (full f)∧((full f = []∧first = -1∧last = [])∨(∃ j:Nat,first = (j:Int)∧∃ h:j < f.Core.length,(full f).head? = some f.Core[j]∧(full f).getLast? = some last)))∨(r = .ret false∧¬ ChainL (full f))) ?_ (-1,[],0) ⟨-1,[],0,rfl,YS _,fun k a b h => by simp [Z2e] at h,.inl ⟨by simp [Z2e],rfl,rfl⟩⟩
 ·obtain ⟨r,e,h⟩:=key
  unfold Z0k;rw [e];simp only [Y0]
  rcases h with ⟨first,last,rfl,hch,⟨hf,rfl,rfl⟩ | ⟨j,rfl,hj,hh,hla⟩⟩ | ⟨rfl,hch⟩
  ·simp only [Jx.elim];rw [ZC (by omega),cond_true]
   refine ⟨true,rfl,fun _ => ⟨hch,fun a b ha => ?_⟩,fun _ => rfl⟩
   rw [hf] at ha;cases ha
  ·simp only [Jx.elim];rw [ZB (by omega),cond_false]
   have hlast:last ∈ full f:=Y0h hla
   rw [← ZAL] at hlast;obtain ⟨l1,l2,l3⟩:=hne hlast
   have hfirst:f.Core[j] ∈ full f:=List.mem_of_mem_head? hh
   rw [← ZAL] at hfirst;obtain ⟨f1,f2,f3⟩:=hne hfirst
   have hlen:=n3 _ l3
   obtain ⟨x,y,e1,e2,e3,e4⟩:=(show ∃ x y,at? last (w64 ((last.length:Int) - 1)) = some x∧at? f.Core[j] 0 = some y∧x.To = lstT last∧y.From = fstT f.Core[j] from by
    have hp:0 < last.length:=List.length_pos_iff.2 l1
    have hp2:0 < f.Core[j].length:=List.length_pos_iff.2 f1
    refine ⟨last.getLast l1,f.Core[j].head f1,?_,?_,?_,?_⟩
    ·have:w64 ((last.length:Int) - 1) = ((last.length - 1:Nat):Int):=by rw [Z1 (by omega)];omega
     rw [this,at?_nat (by omega),List.getLast_eq_getElem]
    ·have:=at?_nat (l:=f.Core[j]) (k:=0) hp2
     rw [List.head_eq_getElem];exact this
    ·unfold lstT;rw [Y0C l1]
     rfl
    ·unfold fstT;rw [Y0I f1]
     rfl)
   have hcore:(Z0x f).Core = f.Core:=rfl
   have hP:(Z0x f).Period = f.Period:=rfl
   rw [e1];simp only [Y0,hcore,hP];rw [at?_nat hj];simp only [Y0];rw [e2];simp only [Y0];have ht:=(lst_tick f2 f1).2
   unfold Z3 at ht;rw [e3,e4,Z1 (by omega)]
   refine ⟨_,rfl,?_⟩;rw [decide_eq_true_eq]
   constructor
   ·intro h;refine ⟨hch,fun a b ha hb => ?_⟩
    rw [hla,Y5] at ha;rw [hh,Y5] at hb;rw [← ha,← hb];exact h
   ·intro h;exact h.2 _ _ hla hh
  ·exact ⟨false,rfl,fun h => (by cases h),fun h => absurd h.1 hch⟩
 ·rintro _ ⟨first,last,k,rfl,hk,hch,hI⟩;have hcore:(Z0x f).Core = f.Core:=rfl
  unfold Z0k.s0;simp only [hcore]
  by_cases hlt:k < f.Core.length
  ·have hm:=YE hlt
   have hr:=hs.core _ hm
   rw [ZC (show (k:Int) < (f.Core.length:Int) by omega),cond_true,at?_nat hlt]
   simp only [Y0];have hlr:RightL last∧last.length≤60000:=by
    rcases hI with ⟨_,_,rfl⟩ | ⟨j,_,hj,_,hla⟩
    ·exact ⟨⟨by simp,by simp⟩,by simp⟩
    ·obtain ⟨_,q1,q2⟩:=hne (Y0h hla)
     exact ⟨q1,n3 _ q2⟩
   have hA:=Z81 (a:=last) (b:=f.Core[k]) (by omega) (by have:=n3 _ hm;omega)
   rw [Z1P hlr.1 hr] at hA;have hsucc:=fullK_succ hlt
   rcases hA with ⟨e,h⟩ | ⟨e,h⟩
   ·rw [e];simp only [Y0,YQ,cond_false]
    by_cases hc:f.Core[k] = []
    ·rw [if_pos hc] at hsucc;have hl0:decide ((f.Core[k].length:Int) > 0) = false:=by rw [hc];rfl
     rw [hl0];simp only [cond_false,Y0,Jx.elim];refine .inl ⟨_,rfl,⟨first,last,k + 1,?_,hlt,by rw [hsucc];exact hch,by rw [hsucc];exact hI⟩,?_⟩
     ·rw [Z1 (by omega)];push_cast;rfl
     ·simp only [];rw [Z1 (by omega)];omega
    ·rw [if_neg hc] at hsucc;have hl0:decide ((f.Core[k].length:Int) > 0) = true:=by have:=List.length_pos_iff.2 hc;exact decide_eq_true (by omega)
     rw [hl0,cond_true];have hch':ChainL (Z2e f (k + 1)):=by
      rw [hsucc];intro m a b ha hb;have hb':=(List.getElem?_eq_some_iff.1 hb).1
      rw [YG,YI] at hb'
      rcases YF (m + 1) (Z2e f k).length with hm1 | hm1
      ·rw [YY (by omega)] at ha hb
       exact hch m a b ha hb
      ·have hme:m + 1 = (Z2e f k).length:=by omega
       rw [YY (by omega)] at ha
       rw [hme,Ye (YC _),Nat.sub_self] at hb;simp only [Y0l,Y5] at hb
       rcases hI with ⟨h0,_,_⟩ | ⟨j,_,hj,_,hla⟩
       ·rw [h0] at ha;simp at ha
       ·have:(Z2e f k).getLast? = some a:=by
         rw [Y0A,show (Z2e f k).length - 1 = m by omega]
         exact ha
        rw [hla,Y5] at this;subst this;have hln:last ≠ []:=(hne (Y0h hla)).1
        rw [← hb];exact (Z2L hln hc).1 h
     rcases hI with ⟨h0,rfl,rfl⟩ | ⟨j,rfl,hj,hh,hla⟩
     ·rw [ZC (by omega)]
      simp only [cond_true,Y0,Jx.elim];refine .inl ⟨_,rfl,⟨(k:Int),f.Core[k],k + 1,?_,hlt,hch',.inr ⟨k,rfl,hlt,by rw [hsucc,h0];rfl,by rw [hsucc,h0];rfl⟩⟩,?_⟩
      ·rw [Z1 (by omega)];push_cast;rfl
      ·simp only [];rw [Z1 (by omega)];omega
     ·rw [ZB (by omega)]
      simp only [cond_false,Y0,Jx.elim];refine .inl ⟨_,rfl,⟨(j:Int),f.Core[k],k + 1,?_,hlt,hch',.inr ⟨j,rfl,hj,?_,by rw [hsucc];simp⟩⟩,?_⟩
      ·rw [Z1 (by omega)];push_cast;rfl
      ·rw [hsucc,List.head?_append,hh];rfl
      ·simp only [];rw [Z1 (by omega)];omega
   ·rw [e];simp only [Y0,Yq,cond_true,Jx.elim];refine .inr ⟨_,rfl,.inr ⟨rfl,fun hcf => h ?_⟩⟩
    rcases hI with ⟨_,_,rfl⟩ | ⟨j,_,hj,_,hla⟩
    ·exact Z3G _
    ·by_cases hc:f.Core[k] = []
     ·rw [hc];exact Z9T _
     ·rw [if_neg hc] at hsucc;have hln:last ≠ []:=(hne (Y0h hla)).1
      rw [Z2L hln hc];obtain ⟨rest,hrest⟩:=fullK_pre (f:=f) (k:=k + 1)
      rw [hsucc] at hrest;have hpos:0 < (Z2e f k).length:=by
       cases hF:Z2e f k with
       | nil => rw [hF] at hla;cases hla
       | cons a l => simp
      rw [Y0A] at hla;refine hcf ((Z2e f k).length - 1) last f.Core[k] ?_ ?_
      ·rw [hrest,Yi,YY (by omega)]
       exact hla
      ·rw [hrest,show (Z2e f k).length - 1 + 1 = (Z2e f k).length by omega,Yi,Ye (YC _),Nat.sub_self]
       rfl
  ·have:k = f.Core.length:=by omega
   subst this;rw [ZB (by omega),cond_false]
   rw [ZAL] at hch hI;exact .inr ⟨_,rfl,.inl ⟨first,last,rfl,hch,hI⟩⟩
end Go.Dn

namespace Go.Dn
open Go
def ordS (f:Form) (last:List Span):List Int→Prop
 | [] => True
 | x :: l => (Z3 x∧fits f x)∧Z7q last (ZH f x)∧ordS f (if ZH f x = [] then last else ZH f x) l
theorem ordered_loop {f:Form} (hl:Lim f) (hs:Shape f) (hnl:¬ Z22 f) {l:List Int} (hlen:l.length≤1000) (h64:∀ x ∈ l,In64 x):∀ (rem pre:List Int) (last:List Span),l = pre ++ rem→last.length≤60000 →
  (loopO (Zb.s0 f l) (last,(pre.length:Int)) = some (.go ())∧ordS f last rem)∨(loopO (Zb.s0 f l) (last,(pre.length:Int)) = some (.ret false)∧¬ ordS f last rem):=by
 intro rem
 induction rem with
 | nil =>
  intro pre last hpre hll;rw [YP] at hpre;subst hpre;rw [Z45];unfold Zb.s0;simp only [];rw [ZB (by omega),cond_false]
  exact .inl ⟨rfl,trivial⟩
 | cons x rem ih =>
  intro pre last hpre hll;have hlt:pre.length < l.length:=by rw [hpre];simp
  have hx:l[pre.length] = x:=by simp [hpre]
  have hxm:x ∈ l:=by rw [hpre];simp
  have ih':=fun last' h => ih (pre ++ [x]) last' (by rw [hpre];simp) h
  have hpl:(((pre ++ [x]).length:Nat):Int) = (pre.length:Int) + 1:=by simp
  rw [Z45];unfold Zb.s0;simp only [];rw [ZC (show (pre.length:Int) < (l.length:Int) by omega),cond_true,at?_nat hlt,hx]
  simp only [Y0];rw [Z4T hl hs hnl (h64 x hxm),Z1I hl hs (h64 x hxm)];simp only [Y0]
  by_cases hf:Z3 x∧fits f x
  ·rw [if_pos hf];simp only [bne_self_eq_false,cond_false];have hsl:=setAt_nl hl hs hnl (h64 x hxm)
   rcases Z81 (a:=last) (b:=ZH f x) (by omega) (by omega) with ⟨e,h⟩ | ⟨e,h⟩
   ·rw [e];simp only [Y0,YQ,cond_false];have hw:w64 ((pre.length:Int) + 1) = (((pre ++ [x]).length:Nat):Int):=by rw [hpl,Z1 (by omega)]
    by_cases hn:ZH f x = []
    ·have hl0:decide (((ZH f x).length:Int) > 0) = false:=by rw [hn];rfl
     rw [hl0];simp only [cond_false,Y0,Jx.elim,hw]
     rcases ih' last hll with ⟨q1,q2⟩ | ⟨q1,q2⟩
     ·exact .inl ⟨q1,hf,h,by rw [if_pos hn];exact q2⟩
     ·exact .inr ⟨q1,fun ho => q2 (by have:=ho.2.2;rwa [if_pos hn] at this)⟩
    ·have hl0:decide (((ZH f x).length:Int) > 0) = true:=by have:=List.length_pos_iff.2 hn;exact decide_eq_true (by omega)
     rw [hl0];simp only [cond_true,Y0,Jx.elim,hw]
     rcases ih' (ZH f x) hsl with ⟨q1,q2⟩ | ⟨q1,q2⟩
     ·exact .inl ⟨q1,hf,h,by rw [if_neg hn];exact q2⟩
     ·exact .inr ⟨q1,fun ho => q2 (by have:=ho.2.2;rwa [if_neg hn] at this)⟩
   ·rw [e];exact .inr ⟨rfl,fun ho => h ho.2.1⟩
  ·rw [if_neg hf];exact .inr ⟨rfl,fun ho => hf ho.1⟩
theorem ordered_eq {f:Form} (hl:Lim f) (hs:Shape f) (hnl:¬ Z22 f) {l:List Int} (hlen:l.length≤1000) (h64:∀ x ∈ l,In64 x):(Zb f l = some true∧ordS f [] l)∨(Zb f l = some false∧¬ ordS f [] l):=by
 unfold Zb
 rcases ordered_loop hl hs hnl hlen h64 l [] [] rfl (by simp) with ⟨e,h⟩ | ⟨e,h⟩
 ·have e:loopO (Zb.s0 f l) ([],0) = some (.go ()):=e
  rw [e];exact .inl ⟨rfl,h⟩
 ·have e:loopO (Zb.s0 f l) ([],0) = some (.ret false):=e
  rw [e];exact .inr ⟨rfl,h⟩
theorem Z5R (b:List Span):Z7q [] b:=fun x hx => by cases hx
theorem sides_iff {f:Form} (hs:Shape f) {i:Int} (hi:Z3 i) {lo hi':Int × Bool} (hlo:Under f i lo) (hhi:Above f i hi') :
  ordS f [] ((if lo.2 = true then [lo.1] else []) ++ [i] ++ (if hi'.2 = true then [hi'.1] else [])) ↔ ZAB f i lo hi':=by
 have rt:∀ {k},fits f k→RightL (ZH f k):=fun h => Z5i hs h
 obtain ⟨a,la⟩:=lo
 obtain ⟨b,lb⟩:=hi'
 unfold ZAB
 cases la with
 | false =>
  cases lb with
  | false =>
   simp only [Y9,if_false,Y02,YP,ordS,and_true,false_implies,true_and]
   constructor
   ·exact fun h => h.1.2
   ·exact fun h => ⟨⟨hi,h⟩,Z5R _⟩
  | true =>
   obtain ⟨_,h1,h2,h3,_⟩ | ⟨h,_⟩:=hhi
   ·simp only [Y9,if_false,if_true,Y02,List.singleton_append,ordS,and_true,false_implies,true_and,true_implies];simp only at h2
    constructor
    ·rintro ⟨⟨_,p1⟩,_,⟨_,p2⟩,p3⟩;refine ⟨p1,⟨p2,?_⟩⟩
     by_cases hn:ZH f i = []
     ·rw [hn];exact Z3G _
     ·rw [if_neg hn] at p3;exact (Z1P (rt p1) (rt p2)).1 p3
    ·rintro ⟨p1,p2,p3⟩;refine ⟨⟨hi,p1⟩,Z5R _,⟨h2,p2⟩,?_⟩
     by_cases hn:ZH f i = []
     ·rw [if_pos hn];exact Z5R _
     ·rw [if_neg hn];exact (Z1P (rt p1) (rt p2)).2 p3
   ·cases h
 | true =>
  obtain ⟨_,k1,k2,k3,_⟩ | ⟨h,_⟩:=hlo
  case inr => cases h
  simp only at k2 k3;cases lb with
  | false =>
   simp only [Y9,if_false,if_true,YP,List.singleton_append,ordS,and_true,false_implies,true_and,true_implies,if_neg k3]
   constructor
   ·rintro ⟨⟨_,p1⟩,_,⟨_,p2⟩,p3⟩;exact ⟨p2,⟨p1,(Z1P (rt p1) (rt p2)).1 p3⟩⟩
   ·rintro ⟨p2,p1,p3⟩;exact ⟨⟨k2,p1⟩,Z5R _,⟨hi,p2⟩,(Z1P (rt p1) (rt p2)).2 p3⟩
  | true =>
   obtain ⟨_,h1,h2,h3,_⟩ | ⟨h,_⟩:=hhi
   ·simp only [if_true,List.singleton_append,Y0W,Y02,ordS,and_true,true_implies,if_neg k3];simp only at h2 h3
    constructor
    ·rintro ⟨⟨_,p1⟩,_,⟨_,p2⟩,p3,⟨_,p4⟩,p5⟩;have q3:=(Z1P (rt p1) (rt p2)).1 p3
     by_cases hn:ZH f i = []
     ·rw [if_pos hn] at p5;exact ⟨p2,⟨p1,q3⟩,⟨p4,by rw [hn];exact Z3G _⟩,(Z1P (rt p1) (rt p4)).1 p5⟩
     ·rw [if_neg hn] at p5;have q5:=(Z1P (rt p2) (rt p4)).1 p5
      refine ⟨p2,⟨p1,q3⟩,⟨p4,q5⟩,?_⟩;rw [Z2L k3 hn] at q3;rw [Z2L hn h3] at q5;rw [Z2L k3 h3];have:=Z5N (rt p2) hn
      omega
    ·rintro ⟨p2,⟨p1,p3⟩,⟨p4,p5⟩,p6⟩;refine ⟨⟨k2,p1⟩,Z5R _,⟨hi,p2⟩,(Z1P (rt p1) (rt p2)).2 p3,⟨h2,p4⟩,?_⟩
     by_cases hn:ZH f i = []
     ·rw [if_pos hn];exact (Z1P (rt p1) (rt p4)).2 p6
     ·rw [if_neg hn];exact (Z1P (rt p2) (rt p4)).2 p5
   ·cases h
theorem under_tick {f:Form} {i:Int} {r:Int × Bool} (h:Under f i r):r.2 = true→Z3 r.1:=fun h2 => by
 rcases h with ⟨_,_,h,_⟩ | ⟨h,_⟩
 ·exact h
 ·rw [h] at h2;cases h2
theorem above_tick {f:Form} {i:Int} {r:Int × Bool} (h:Above f i r):r.2 = true→Z3 r.1:=fun h2 => by
 rcases h with ⟨_,_,h,_⟩ | ⟨h,_⟩
 ·exact h
 ·rw [h] at h2;cases h2
theorem ZBX {f:Form} (hl:Lim f):Z0C f = Z02 f:=by
 by_cases hlong:Z22 f
 ·rcases Z4Z hl with ⟨_,e⟩ | ⟨h,_⟩ | ⟨h,_⟩
  ·rw [e];unfold Z0C
   by_cases h1:6000 < f.Core.length∨6000 < f.Odd.length
   ·have:((decide ((f.Core.length:Int) > 6000)) || (decide ((f.Odd.length:Int) > 6000))) = true:=by
     simp only [Yb,decide_eq_true_eq];omega
    rw [this]
    rfl
   ·have:((decide ((f.Core.length:Int) > 6000)) || (decide ((f.Odd.length:Int) > 6000))) = false:=by
     rw [ZB (by omega),ZB (by omega)];rfl
    rw [this,cond_false,Z8n hl (by omega) (by omega)]
    have hsz:60000 < Z4e f:=by unfold Z22 at hlong;omega
    simp only [Y0];rw [ZC (by omega)]
    rfl
  ·exact absurd hlong h
  ·exact absurd hlong h
 ·obtain ⟨n1,n2,n3,n4⟩:=Z6q hlong
  have hsz:¬ 60000 < Z4e f:=by unfold Z22 at hlong;omega
  have hcases:=Z4Z hl
  unfold Z0C;have:((decide ((f.Core.length:Int) > 6000)) || (decide ((f.Odd.length:Int) > 6000))) = false:=by
   rw [ZB (by omega),ZB (by omega)];rfl
  rw [this,cond_false,Z8n hl n1 n2];simp only [Y0];rw [ZB (by omega),cond_false]
  obtain ⟨b,eb,hb⟩:=ZCA hl hlong
  rw [eb];simp only [Y0];have bad:¬ RightF f→Z02 f = some 50:=fun h => by
   rcases hcases with ⟨h',_⟩ | ⟨_,h',_⟩ | ⟨_,_,e⟩
   ·exact absurd h' hlong
   ·exact absurd h' h
   ·exact e
  have good:RightF f→Z02 f = some 0:=fun h => by
   rcases hcases with ⟨h',_⟩ | ⟨_,_,e⟩ | ⟨_,h',_⟩
   ·exact absurd h' hlong
   ·exact e
   ·exact absurd h h'
  cases b with
  | false =>
   rw [bad fun h => by have:=hb.2 h.shape;cases this]
   rfl
  | true =>
   have hs:=hb.1 rfl
   simp only [YQ,cond_false];obtain ⟨c,ec,hc⟩:=ref05_turn_eq hl hs hlong
   rw [ec];simp only [Y0];cases c with
   | false =>
    rw [bad fun h => by have:=hc.2 h.turns;cases this]
    rfl
   | true =>
    have ht:=hc.1 rfl
    simp only [YQ,cond_false];have key:=Z1L (l:=f.Odd) (step:=Z0C.s0 f) (good:=fun _ g => Beside f g.Index) (yes:=.go ()) (no:=.ret 50) (by
     intro k g hk _;obtain ⟨hkl,rfl⟩:=List.getElem?_eq_some_iff.1 hk
     have hm:=YE hkl
     have htk:=(hs.odd _ hm).2
     obtain ⟨lo,e1,hlo⟩:=Z2U hl hs (Z0M htk)
     obtain ⟨hi,e2,hhi⟩:=Z1Y hl hs (Z0M htk)
     have hBes:Beside f f.Odd[k].Index ↔ ZAB f f.Odd[k].Index lo hi:=by
      constructor
      ·exact fun h => h lo hi hlo hhi
      ·intro h lo' hi' hlo' hhi';rw [hlo'.uniq hlo,hhi'.uniq hhi];exact h
     have hside:=sides_iff hs htk hlo hhi
     have hroom:=Z1F
     unfold Z0C.s0;rw [ZC (show (k:Int) < f.Odd.length by omega),cond_true]
     simp only [at?_nat hkl,Y0];rw [ZAM hl hs hlong (Z0M htk),e1,Z6f hl hs hlong (Z0M htk),e2];simp only [Y0];have h64:∀ x ∈ ((if lo.2 = true then [lo.1] else []) ++ [f.Odd[k].Index] ++ (if hi.2 = true then [hi.1] else [])),In64 x:=fun x hx => by
      rcases List.mem_append.1 hx with hx | hx
      ·rcases List.mem_append.1 hx with hx | hx
       ·split at hx
        ·rename_i h;rw [YD] at hx;rw [hx];exact Z0M (under_tick hlo h)
        ·cases hx
       ·rw [YD] at hx;rw [hx];exact Z0M htk
      ·split at hx
       ·rename_i h;rw [YD] at hx;rw [hx];exact Z0M (above_tick hhi h)
       ·cases hx
     have hlen:((if lo.2 = true then [lo.1] else []) ++ [f.Odd[k].Index] ++ (if hi.2 = true then [hi.1] else [])).length≤3:=by
      rw [YG,YG]
      split <;> split <;> simp
     have p1:((bif lo.2 then (app? 8 [] [lo.1]).bind fun x6 => some x6 else some []):Option (List Int)) = some (if lo.2 = true then [lo.1] else []):=by
      cases lo.2
      ·rfl
      ·rw [app?_ok (by rw [hroom];simp)];rfl
     have p2:app? 8 (if lo.2 = true then [lo.1] else []) [f.Odd[k].Index] = some ((if lo.2 = true then [lo.1] else []) ++ [f.Odd[k].Index]):=by
      apply app?_ok;rw [hroom]
      split <;> simp
     have p3:((bif hi.2 then (app? 8 ((if lo.2 = true then [lo.1] else []) ++ [f.Odd[k].Index]) [hi.1]).bind fun x11 => some x11 else some ((if lo.2 = true then [lo.1] else []) ++ [f.Odd[k].Index])):Option (List Int)) = some ((if lo.2 = true then [lo.1] else []) ++ [f.Odd[k].Index] ++ (if hi.2 = true then [hi.1] else [])):=by
      cases hi.2
      ·simp
      ·rw [app?_ok (by rw [hroom];split <;> simp)]
       simp
     rw [p1];simp only [Y0];rw [p2];simp only [Y0];rw [p3];simp only [Y0]
     rcases ordered_eq hl hs hlong (by omega) h64 with ⟨e3,h⟩ | ⟨e3,h⟩
     ·rw [e3];simp only [Y0,YQ,cond_false,Jx.elim];rw [Z1 (by omega)]
      exact .inl ⟨rfl,hBes.2 (hside.1 h)⟩
     ·rw [e3];exact .inr ⟨rfl,fun hb => h (hside.2 (hBes.1 hb))⟩) (by unfold Z0C.s0;rw [ZB (by omega),cond_false])
    rcases key with ⟨e3,h⟩ | ⟨e3,h⟩
    ·rw [e3,good ⟨hs,ht,fun g hg => by obtain ⟨j,hj⟩:=YB hg;exact h j g hj⟩]
     rfl
    ·rw [e3,bad fun hr => h fun j g hj => hr.beside g (Y6 hj)]
     rfl
end Go.Dn

namespace Go.Dn
open Go
theorem Z6d {S S' R R':Type} {p:S→Option (S ⊕ R)} {q:S'→Option (S' ⊕ R')} (I:S→S'→Prop) (m:S→Nat) (post:R→R'→Prop)
  (h:∀ s t,I s t→(∃ s' t',p s = some (.inl s')∧q t = some (.inl t')∧I s' t'∧m s' < m s)∨(∃ r r',p s = some (.inr r)∧q t = some (.inr r')∧post r r')):∀ s t,I s t→∃ r r',loopO p s = some r∧loopO q t = some r'∧post r r':=by
 have key:∀ n s t,m s = n→I s t→∃ r r',loopO p s = some r∧loopO q t = some r'∧post r r':=by
  intro n
  induction n using Nat.strongRecOn with
  | _ n ih =>
   intro s t hm hI
   rcases h s t hI with ⟨s',t',h1,h2,h3,h4⟩ | ⟨r,r',h1,h2,h3⟩
   ·obtain ⟨r,r',q1,q2,q3⟩:=ih (m s') (by omega) s' t' rfl h3
    exact ⟨r,r',by rw [Z45,h1];exact q1,by rw [Z45,h2];exact q2,q3⟩
   ·exact ⟨r,r',by rw [Z45,h1],by rw [Z45,h2],h3⟩
 exact fun s t hI => key _ s t rfl hI
theorem w64_in (x:Int):In64 (w64 x):=by
 unfold w64
 rw [Z5S]
 unfold In64
 omega
theorem Z72 {f:Form} (hl:Lim f) (hs:Shape f) (hnl:¬ Z22 f) {i:Int} (hi:In64 i) :
  ∃ l e,Z1e f i = some (l,e)∧Z0v f i = some (l,e)∧Len l∧((e = 0∧l = csz f i∧Z15 l)∨(e = 20∧l = [])):=by
 obtain ⟨_,_,n1,_⟩:=Z6q hnl
 have hcnt:=hs.count
 have hper:=hs.per
 have len0:Len ([] : List Span):=by show ([] : List Span).length * 16≤reachBytes;simp
 have t0:Z15 []:=fun s h => by cases h
 unfold Z1e Z0v
 by_cases h0:f.Count = 0
 ·rw [Z6O h0,cond_true,cond_true];exact ⟨[],0,rfl,rfl,len0,.inl ⟨rfl,(if_pos h0).symm,t0⟩⟩
 ·have hp:0 < f.Count:=by omega
  rw [Z3L h0,cond_false,cond_false,Z2v hi hl.count,Z4I hp,Z4Y hi hp hl.count];simp only [Y0];obtain ⟨c1,c2⟩:=Z0H hs h0 i
  rw [c1];simp only [Y0];have hcsz:csz f i = (Z0f f i).map (ZY (i / f.Count * f.Period)):=by rw [Z6x hp];rfl
  by_cases hn:Z0f f i = []
  ·rw [hcsz,hn];exact ⟨[],0,rfl,rfl,len0,.inl ⟨rfl,rfl,t0⟩⟩
  ·have hlen:¬ ((Z0f f i).length:Int) = 0:=by have:=List.length_pos_iff.2 hn;omega
   rw [Z3L hlen,cond_false,cond_false];have hq:In64 (i / f.Count):=by
    unfold In64 at hi ⊢;have q1:i / f.Count≤9223372036854775807:=Int.ediv_le_of_le_mul hp (by
     have:(9223372036854775807:Int) * 1≤9223372036854775807 * f.Count:=YU (by omega) (by decide)
     omega)
    have q2 : -9223372036854775808≤i / f.Count:=Y0d hp (by
     have:(9223372036854775808:Int) * 1≤9223372036854775808 * f.Count:=YU (by omega) (by decide)
     omega)
    exact ⟨q2,q1⟩
   have hP:0 < f.Period:=by
    have:f.Period ≠ 0:=fun h => h0 (hs.zero.2 h)
    omega
   have hsl:=hl.sets _ c2
   have hll:=n1 _ c2
   have ht:=tailX hP hper.2 hn (by omega) (hs.core _ c2) hq
   rw [nz?_ok (by omega)] at ht ⊢
   simp only [Y0] at ht ⊢;rw [ht,Z4i hq hl.period]
   rcases fit_or (i / f.Count * f.Period) with ⟨f1,f2⟩ | ⟨f1,f2⟩
   ·rw [f2];simp only [bne_self_eq_false,Y0o,cond_false]
    rcases Z4V hsl.1 hsl.2 f1 with ⟨m1,m2⟩ | ⟨m1,m2⟩
    ·rw [m2,if_pos m1,hcsz];refine ⟨_,0,rfl,rfl,by unfold Len;rw [YJ];exact hsl.1,.inl ⟨rfl,rfl,fun s hs' => ?_⟩⟩
     obtain ⟨x,hx,rfl⟩:=List.mem_map.1 hs'
     exact m1 x hx
    ·rw [m2,if_neg m1];exact ⟨_,20,rfl,rfl,len0,.inr ⟨rfl,rfl⟩⟩
   ·rw [f2,if_neg]
    ·exact ⟨_,20,rfl,rfl,len0,.inr ⟨rfl,rfl⟩⟩
    ·intro h;obtain ⟨s0,hs0⟩:=Y11 _ hn
     obtain ⟨k,hk⟩:=YB hs0
     have h1:=((hs.core _ c2).ok k s0 hk).1
     have h2:=(h s0 hs0).1
     unfold Z3 at h1 h2;unfold In64 at f1;omega
theorem Z3R:Lim (Form.mk 0 0 [] []):=by
 have r:=Z0g
 refine ⟨?_,fun l h => (by cases h),?_,fun g h => (by cases h),?_,?_⟩ <;> simp [In64]
theorem Z61 {F:Form} (hl:Lim F) (h6:RightF F→ZM F = Zt F):∃ g e,Z25 F = some (g,e)∧Z1j F = some (g,e)∧Lim g:=by
 unfold Z25 Z1j
 rw [ZBX hl]
 rcases Z4Z hl with ⟨_,h⟩ | ⟨_,h3,h4⟩ | ⟨_,_,h⟩
 ·rw [h];exact ⟨_,_,rfl,rfl,Z3R⟩
 ·rw [h4];simp only [Y0];rw [h6 h3];obtain ⟨c,hc1,hc⟩:=Z8g hl h3.shape
  rw [hc];exact ⟨_,_,rfl,rfl,canonF_lim hl h3.shape hc1⟩
 ·rw [h];exact ⟨_,_,rfl,rfl,Z3R⟩
theorem range13 (i:Int):(decide (i < -1099511627776) || decide (i > 1099511627776)) = !Zo i:=by
 rw [Z57]
 unfold Z3
 by_cases h : -1099511627776≤i∧i≤1099511627776
 ·rw [ZC h,ZB (show ¬ i < -1099511627776 by omega),ZB (show ¬ i > 1099511627776 by omega)];rfl
 ·rw [ZB h]
  by_cases h2:i < -1099511627776
  ·rw [ZC h2];rfl
  ·rw [ZC (show i > 1099511627776 by omega),Bool.or_true];rfl
theorem ZBf {f:Form} (hl:Lim f) (hs:Shape f) (hb:Bnd f) {m:Int} (hm:In64 m) :
  ∃ g e,ZL f m = some (g,e)∧Zq f m = some (g,e)∧Lim g:=by
 have hnl:=hb.short
 have e0:Zq.s0 f m = ZL.s0 f m:=by
  funext s
  unfold Zq.s0 ZL.s0;obtain ⟨l,e,h1,h2,_⟩:=Z72 hl hs hnl (w64_in (s.1 - m))
  rw [h1,h2]
 have e1:Zq.s1 f m = ZL.s1 f m:=by
  funext s
  unfold Zq.s1 ZL.s1;cases hx:at? f.Odd s.1 with
  | none => rfl
  | some x =>
   simp only [Y0];have hmem:x ∈ f.Odd:=by
    unfold at? at hx
    split at hx
    ·exact Y6 hx
    ·cases hx
   have h60:=hb.ticks x hmem
   rw [range13,app?_ok (l:=[]) (m:=x.Ticks) (by rw [Z1F];simp only [YX];omega)]
   rfl
 unfold ZL Zq
 rw [range13,e0,e1]
 by_cases ht:Z3 m
 ·rw [Z57,ZC ht,YQ,cond_false,cond_false]
  rcases shift_core hl hs hb ht with h1 | ⟨h1,c1⟩
  ·rw [h1];exact ⟨_,_,rfl,rfl,Z3R⟩
  rw [h1];simp only [Y0,Jx.elim]
  rcases shift_odd hl hs hb ht with h2 | ⟨h2,c2⟩
  ·rw [h2];exact ⟨_,_,rfl,rfl,Z3R⟩
  rw [h2];simp only [Y0];have e:Form.mk f.Period f.Count (Z5G f m).Core (Z5G f m).Odd = Z5G f m:=rfl
  rw [e];have hbs:=shiftF_bnd hs hb m
  have lim:Lim (Z5G f m):=by
   have r:=Z0g
   have h3:=hb.core
   have h4:=hb.odd
   refine ⟨?_,c1,?_,fun g hg => ?_,hl.count,hl.period⟩
   ·show ((List.range f.Core.length).map _).length * 24≤reachBytes
    rw [YJ,Y0S];omega
   ·show (f.Odd.map _).length * 32≤reachBytes
    rw [YJ];omega
   ·obtain ⟨x,hx,rfl⟩:=List.mem_map.1 hg
    exact ⟨Z0M (c2 x hx),(hl.ticks x hx).2⟩
  obtain ⟨g,e,g1,g2,g3⟩:=Z61 lim fun hr => Z8m lim hr (by have:=hr.shape.count;have:=hbs.core;omega) hbs.odd
  rw [g1,g2];exact ⟨g,e,rfl,rfl,g3⟩
 ·rw [Z57,ZB ht];exact ⟨_,_,rfl,rfl,Z3R⟩
end Go.Dn

namespace Go.Dn
open Go
def bareG (i:Int):Granule:=⟨i,[]⟩
theorem there_eq {f:Form} (hl:Lim f) (hs:Shape f) {i:Int} (hi:Z3 i) :
  (Z1D f i = some (decide (ZH f i ≠ []),ZH f i,0)∧fits f i)∨(Z1D f i = some (true,[],20)∧ZH f i ≠ []∧¬ fits f i):=by
 unfold Z1D
 rw [Z1I hl hs (Z0M hi)]
 by_cases h:fits f i
 ·rw [if_pos ⟨hi,h⟩]
  left
  refine ⟨?_,h⟩;simp only [Y0,bne_self_eq_false,Bool.or_false]
  congr 2
  cases ZH f i with
  | nil => rfl
  | cons a l => simp
 ·rw [if_neg fun h' => h h'.2]
  right
  refine ⟨rfl,fun h0 => h ?_,h⟩
  unfold fits;rw [h0];intro s hs';cases hs'
theorem first_eq {f:Form} (hl:Lim f) (hs:Shape f) (hnl:¬ Z22 f) {m:Int} (hm:Z3 m) :
  ∃ r:Int × Bool,((Z1D f m).bind fun x1 => (bif (!x1.1) then (Z11 f m).bind fun x2 => some (x2.1,x2.2) else some (m,true))) = some r∧ZU f m 1 = some r∧(r.2 = true→Z3 r.1∧m≤r.1):=by
 obtain ⟨r,e,hr⟩:=Z38 hl hs hnl hm (.inl rfl:(1:Int) = 1∨_)
 have hdst:∀ k,0≤dst m 1 k ↔ m≤k:=fun k => by unfold dst;omega
 have hpost:r.2 = true→Z3 r.1∧m≤r.1:=fun h => by
  rcases hr with ⟨_,h2,h3,_⟩ | ⟨h1,_⟩
  ·exact ⟨h3,(hdst _).1 h2⟩
  ·rw [h] at h1;cases h1
 have hth:∃ b l c,Z1D f m = some (b,l,c)∧b = decide (ZH f m ≠ []):=by
  rcases there_eq hl hs hm with ⟨h,_⟩ | ⟨h,h2,_⟩
  ·exact ⟨_,_,_,h,rfl⟩
  ·exact ⟨_,_,_,h,(ZC h2).symm⟩
 obtain ⟨b,l,c,h1,rfl⟩:=hth
 rw [h1]
 simp only [Y0]
 refine ⟨r,?_,e,hpost⟩
 by_cases hn:ZH f m = []
 ·rw [ZB (show ¬ (ZH f m ≠ []) from fun h => h hn),Yq,cond_true]
  obtain ⟨r',e',hr'⟩:=Z1Y hl hs (Z0M hm)
  rw [e'];have:Above f m r:=by
   rcases hr with ⟨g1,g2,g3,g4,g5⟩ | ⟨g1,g2,g3⟩
   ·have g6:m < r.1:=by
     have:=(hdst _).1 g2
     rcases Y1A m r.1 with h | h
     ·exact h
     ·have:r.1 = m:=by omega
      rw [this] at g4;exact absurd hn g4
    refine .inl ⟨g1,g6,g3,g4,fun k h2 h3 h4 => ?_⟩
    apply Classical.byContradiction;intro hk;have:=g5 k ((hdst k).2 (by omega)) h4 hk
    unfold dst at this;omega
   ·exact .inr ⟨g1,g2,fun k h2 h3 => g3 k ((hdst k).2 (by omega)) h3⟩
  rw [hr'.uniq this]
  rfl
 ·rw [ZC (show ZH f m ≠ [] from hn),YQ,cond_false]
  rcases hr with ⟨g1,g2,g3,g4,g5⟩ | ⟨g1,g2,g3⟩
  ·have:=g5 m ((hdst m).2 (by omega)) hm hn
   have g6:=(hdst _).1 g2
   have g7:r.1 = m:=by unfold dst at this;omega
   obtain ⟨a,b⟩:=r
   simp only at g1 g7;rw [g1,g7]
  ·exact absurd (g3 m ((hdst m).2 (by omega)) hm) hn
theorem set_mid {α:Type} (a b:List α) (x y:α):(a ++ x :: b).set a.length y = a ++ y :: b:=by
 induction a with
 | nil => rfl
 | cons z a ih => simp
theorem ZBM {f:Form} (hl:Lim f) (hs:Shape f) (hb:Bnd f) {m n:Int} (hm:In64 m) (hn:In64 n) (hg:(m > n∨m < -1099511627776)∨n > 1099511627776∨w64 (n - m)≤2000) :
  ∃ g e,ZW f m n = some (g,e)∧Ze f m n = some (g,e)∧Lim g:=by
 have hnl:=hb.short
 have hro:=Z1F
 have hre:=Z0g
 have econd:(((!(Zo m)) || (!(Zo n))) || (decide (m > n))) = (((decide (m < (-1099511627776))) || (decide (n > 1099511627776))) || (decide (m > n))):=by
  rw [Z57,Z57];unfold Z3
  by_cases h:m > n
  ·rw [ZC h,Bool.or_true,Bool.or_true]
  ·rw [ZB h,Bool.or_false,Bool.or_false]
   by_cases h1:m < -1099511627776
   ·rw [ZC h1,ZB (show ¬ (-1099511627776≤m∧m≤1099511627776) by omega)];rfl
   ·by_cases h2:n > 1099511627776
    ·rw [ZC h2,ZB (show ¬ (-1099511627776≤n∧n≤1099511627776) by omega),Bool.or_true]
     simp
    ·rw [ZB h1,ZB h2,ZC (show (-1099511627776≤n∧n≤1099511627776) by omega),ZC (show (-1099511627776≤m∧m≤1099511627776) by omega)]
     rfl
 unfold ZW Ze
 rw [econd]
 by_cases hc:m < -1099511627776∨n > 1099511627776∨m > n
 ·have:(((decide (m < (-1099511627776))) || (decide (n > 1099511627776))) || (decide (m > n))) = true:=by
   simp only [Yb,decide_eq_true_eq];omega
  rw [this];exact ⟨_,_,rfl,rfl,Z3R⟩
 ·rw [ZB (show ¬ m < -1099511627776 by omega),ZB (show ¬ n > 1099511627776 by omega),ZB (show ¬ m > n by omega)]
  have hmt:Z3 m:=by unfold Z3;omega
  rw [Z1 (by omega)] at hg
  have hmn:n - m≤2000:=by omega
  simp only [Y0o,cond_false];obtain ⟨r0,f1,f2,f3⟩:=first_eq hl hs hnl hmt
  rw [f1,f2];simp only [Y0];obtain ⟨y,y',p1,p2,l,rfl,rfl,l1,l2⟩:=Z6d (p:=ZW.s0 f n) (q:=Ze.s0 f n)
   (I:=fun s t => t = (s.1,s.2.1,s.2.2.map bareG)∧(s.2.1 = true→Z3 s.1∧(s.2.2.length:Int)≤s.1 - m)∧(∀ x ∈ s.2.2,Z3 x)∧(s.2.2.length:Int)≤2001)
   (m:=fun s => if s.2.1 = true then (n - s.1).toNat + 2 + (if s.1≤n then 1 else 0) else 0)
   (post:=fun r r' => ∃ l:List Int,r = .go l∧r' = .go (l.map bareG)∧(∀ x ∈ l,Z3 x)∧(l.length:Int)≤2001) (by
    rintro ⟨i,ok,l⟩ t ⟨rfl,h1,h2,h3⟩;unfold ZW.s0 Ze.s0;simp only at h1 h2 h3 ⊢;cases ok with
    | false =>
     right
     rw [Y0Y,cond_false,cond_false];exact ⟨_,_,rfl,rfl,l,rfl,rfl,h2,h3⟩
    | true =>
     obtain ⟨h4,h5⟩:=h1 rfl
     by_cases hin:i≤n
     ·left
      rw [ZC hin,Bool.and_true,cond_true,cond_true,app?_ok (by simp only [YI];omega)]
      simp only [Y0];rw [ZB (show ¬ (((l ++ [i]).length:Int) > 6000) by simp only [YG,YI];omega),cond_false,
       Z3L (show ¬ (((l.map bareG).length:Int) = 6000) by rw [YJ];omega),cond_false,app?_ok (by simp only [YJ,YI];omega),Z6f hl hs hnl (Z0M h4)]
      obtain ⟨r,e,hr⟩:=Z1Y hl hs (Z0M h4)
      rw [e];simp only [Y0];refine ⟨_,_,rfl,rfl,⟨by rw [Yx];rfl,fun hk => ?_,fun x hx => ?_,by simp only [YG,YI];omega⟩,?_⟩
      ·rcases hr with ⟨_,g1,g2,_⟩ | ⟨g1,_⟩
       ·exact ⟨g2,by simp only [YG,YI];omega⟩
       ·have hk':r.2 = true:=hk
        rw [hk'] at g1;cases g1
      ·rcases List.mem_append.1 hx with hx | hx
       ·exact h2 x hx
       ·rw [YD] at hx;subst hx;exact h4
      ·simp only [if_true,if_pos hin]
       rcases hr with ⟨g0,g1,g2,_⟩ | ⟨g1,_⟩
       ·rw [if_pos g0]
        split <;> omega
       ·rw [if_neg (by rw [g1];simp)]
        omega
     ·right
      rw [ZB hin,Bool.and_false,cond_false,cond_false];exact ⟨_,_,rfl,rfl,l,rfl,rfl,h2,h3⟩) (r0.1,r0.2,[]) (r0.1,r0.2,[]) ⟨rfl,fun h => ⟨(f3 h).1,by have:=(f3 h).2;simp only [YX];omega⟩,fun x hx => (by cases hx),by simp⟩
  rw [p1,p2];simp only [Y0,Jx.elim];obtain ⟨y,y',p3,p4,p5⟩:=Z6d (p:=ZW.s1 f l) (q:=Ze.s1 f)
   (I:=fun s t => ∃ k:Nat,k≤l.length∧s.1 = (k:Int)∧s.2.length = k∧(∀ g ∈ s.2,Z3 g.Index∧Len g.Ticks∧Z15 g.Ticks)∧t = ((k:Int),s.2 ++ (l.drop k).map bareG))
   (m:=fun s => l.length - s.1.toNat)
   (post:=fun r r' => (r = .ret (Form.mk 0 0 [] [],20)∧r' = .ret (Form.mk 0 0 [] [],20))∨∃ O:List Granule,r = .go O∧r' = .go O∧O.length = l.length∧∀ g ∈ O,Z3 g.Index∧Len g.Ticks∧Z15 g.Ticks) (by
    rintro ⟨i,acc⟩ t ⟨k,hk,e1,e2,hacc,rfl⟩;simp only at e1 e2;subst e1;subst e2;unfold ZW.s1 Ze.s1;simp only at hacc ⊢;have hlen:(acc ++ (l.drop acc.length).map bareG).length = l.length:=by simp only [YG,YJ,Y0k];omega
    by_cases hlt:acc.length < l.length
    ·have hdrop:l.drop acc.length = l[acc.length] :: l.drop (acc.length + 1):=Y10 hlt
     rw [ZC (show (acc.length:Int) < l.length by omega),hlen,ZC (show (acc.length:Int) < l.length by omega),cond_true,cond_true,at?_nat hlt]
     have hat:at? (acc ++ (l.drop acc.length).map bareG) (acc.length:Int) = some (bareG l[acc.length]):=by
      rw [at?_nat (by omega)]
      congr 1
      rw [List.getElem_append_right (YC _)]
      simp
     rw [hat];simp only [Y0];have hmem:=YE hlt
     have hti:=l1 _ hmem
     generalize hx:l[acc.length] = x at *
     rw [show (bareG x).Index = x from rfl,Z4T hl hs hnl (Z0M hti),Z1I hl hs (Z0M hti)]
     rcases there_eq hl hs hti with ⟨h1,h2⟩ | ⟨h1,h2,h3⟩
     ·left
      rw [h1,if_pos ⟨hti,h2⟩];simp only [Y0,bne_self_eq_false,cond_false];rw [app?_ok (by simp only [YI];omega)]
      simp only [Y0];rw [Z1 (x:=(acc.length:Int) + 1) (by omega)]
      refine ⟨_,_,rfl,rfl,⟨acc.length + 1,hlt,by push_cast;rfl,by simp,fun g hg => ?_,?_⟩,by simp only;omega⟩
      ·rcases List.mem_append.1 hg with hg | hg
       ·exact hacc g hg
       ·rw [YD] at hg;subst hg;exact ⟨hti,Z8K hl hs x,h2⟩
      ·rw [hdrop,Y0V,Y0J,set_mid]
       simp
     ·right
      rw [h1,if_neg fun h => h3 h.2]
      exact ⟨_,_,rfl,rfl,.inl ⟨rfl,rfl⟩⟩
    ·right
     have hd:l.drop acc.length = []:=Y0n (by omega)
     rw [ZB (show ¬ (acc.length:Int) < l.length by omega),hlen,ZB (show ¬ (acc.length:Int) < l.length by omega),cond_false,cond_false,hd]
     exact ⟨_,_,rfl,rfl,.inr ⟨acc,rfl,by simp,by omega,hacc⟩⟩) (0,[]) (0,l.map bareG) ⟨0,YS _,rfl,rfl,by simp,by simp⟩
  rw [p3,p4]
  rcases p5 with ⟨rfl,rfl⟩ | ⟨O,rfl,rfl,o1,o2⟩
  ·exact ⟨_,_,rfl,rfl,Z3R⟩
  ·simp only [Y0,Jx.elim];have lim:Lim (Form.mk 0 0 [] O):=by
    refine ⟨by simp,fun l h => (by cases h),?_,fun g hg => ?_,by simp [In64],by simp [In64]⟩
    ·show O.length * 32≤reachBytes
     omega
    ·obtain ⟨a,b,c⟩:=o2 g hg
     exact ⟨Z0M a,b,fun s hs' => ⟨Z0M (c s hs').1,Z0M (c s hs').2⟩⟩
   obtain ⟨g,e,g1,g2,g3⟩:=Z61 lim fun hr => Z7Y lim hr (show (0:Int)≤12 by omega) (.inl rfl)
   rw [g1,g2];exact ⟨g,e,rfl,rfl,g3⟩
end Go.Dn

namespace Go.Dn
open Go
def Z3y (l:List Span):Prop:=l.Pairwise (fun x y => x.To + 1 < y.From)∧∀ s ∈ l,s.From≤s.To
theorem Z6b:Z3y []:=⟨List.Pairwise.nil,fun s h => by cases h⟩
theorem Z9C {o:List Span} {y:Span} (ho:Z3y o) (h1:y.From≤y.To) (h2:∀ s ∈ o,s.To + 1 < y.From):Z3y (o ++ [y]):=by
 refine ⟨List.pairwise_append.2 ⟨ho.1,List.pairwise_singleton _ _,fun s hs t ht => ?_⟩,fun s hs => ?_⟩
 ·rw [YD] at ht;subst ht;exact h2 s hs
 ·rcases List.mem_append.1 hs with hs | hs
  ·exact ho.2 s hs
  ·rw [YD] at hs;subst hs;exact h1
theorem ZCG {o:List Span} {y:Span} (h:Z3y (o ++ [y])):Z3y o∧y.From≤y.To∧∀ s ∈ o,s.To + 1 < y.From:=by
 obtain ⟨p1,p2,p3⟩:=List.pairwise_append.1 h.1
 exact ⟨⟨p1,fun s hs => h.2 s (YZ _ hs)⟩,h.2 y (by simp),fun s hs => p3 s hs y (by simp)⟩
theorem Z7p {a b:List Span} {t:Int}:hasT (a ++ b) t ↔ hasT a t∨hasT b t:=by
 unfold hasT
 constructor
 ·rintro ⟨u,hu,h⟩
  rcases List.mem_append.1 hu with hu | hu
  ·exact .inl ⟨u,hu,h⟩
  ·exact .inr ⟨u,hu,h⟩
 ·rintro (⟨u,hu,h⟩ | ⟨u,hu,h⟩)
  ·exact ⟨u,YZ _ hu,h⟩
  ·exact ⟨u,Yk _ hu,h⟩
theorem Z3H {x:Span} {b:List Span} {t:Int}:hasT (x :: b) t ↔ (x.From≤t∧t≤x.To)∨hasT b t:=by
 unfold hasT
 constructor
 ·rintro ⟨u,hu,h⟩
  rcases List.mem_cons.1 hu with rfl | hu
  ·exact .inl h
  ·exact .inr ⟨u,hu,h⟩
 ·rintro (h | ⟨u,hu,h⟩)
  ·exact ⟨x,YK,h⟩
  ·exact ⟨u,YN _ hu,h⟩
theorem Z3j {t:Int}:¬ hasT [] t:=fun ⟨u,hu,_⟩ => by cases hu
theorem norm_uniq:∀ {a b:List Span},Z3y a→Z3y b→(∀ t,hasT a t ↔ hasT b t)→a = b
 | [],[],_,_,_ => rfl
 | [],y :: b,_,hb,h => absurd ((h y.From).2 (Z3H.2 (.inl ⟨Y04 _,hb.2 y YK⟩))) Z3j
 | x :: a,[],ha,_,h => absurd ((h x.From).1 (Z3H.2 (.inl ⟨Y04 _,ha.2 x YK⟩))) Z3j
 | x :: a,y :: b,ha,hb,h => by
  obtain ⟨a1,a2⟩:=List.pairwise_cons.1 ha.1
  obtain ⟨b1,b2⟩:=List.pairwise_cons.1 hb.1
  have hx:=ha.2 x YK
  have hy:=hb.2 y YK
  have la:∀ t,hasT a t→x.To + 1 < t:=fun t ⟨u,hu,h1,_⟩ => by have:=a1 u hu;omega
  have lb:∀ t,hasT b t→y.To + 1 < t:=fun t ⟨u,hu,h1,_⟩ => by have:=b1 u hu;omega
  have hc:∀ t,((x.From≤t∧t≤x.To)∨hasT a t) ↔ ((y.From≤t∧t≤y.To)∨hasT b t):=fun t => by rw [← Z3H,← Z3H];exact h t
  have e1:x.From = y.From:=by
   have p:=(hc x.From).1 (.inl ⟨Y04 _,hx⟩)
   have q:=(hc y.From).2 (.inl ⟨Y04 _,hy⟩)
   have p':y.From≤x.From:=p.elim (fun p => p.1) fun p => by
    have:=lb _ p
    omega
   have q':x.From≤y.From:=q.elim (fun q => q.1) fun q => by
    have:=la _ q
    omega
   omega
  have e2:x.To = y.To:=by
   rcases Int.lt_trichotomy x.To y.To with h1 | h1 | h1
   ·exfalso
    rcases (hc (x.To + 1)).2 (.inl ⟨by omega,by omega⟩) with p | p
    ·omega
    ·have:=la _ p;omega
   ·exact h1
   ·exfalso
    rcases (hc (y.To + 1)).1 (.inl ⟨by omega,by omega⟩) with p | p
    ·omega
    ·have:=lb _ p;omega
  have e3:a = b:=norm_uniq ⟨a2,fun s hs => ha.2 s (YN _ hs)⟩ ⟨b2,fun s hs => hb.2 s (YN _ hs)⟩ fun t => by
   constructor
   ·intro p;have:=la _ p
    rcases (hc t).1 (.inr p) with q | q
    ·omega
    ·exact q
   ·intro p;have:=lb _ p
    rcases (hc t).2 (.inr p) with q | q
    ·omega
    ·exact q
  obtain ⟨p,q⟩:=x
  obtain ⟨r,s⟩:=y
  simp only at e1 e2;rw [e1,e2,e3]
theorem ZBc:∀ {l:List Span},RightL l→Z3y l
 | [],_ => Z6b
 | x :: l,h => by
  obtain ⟨p1,p2⟩:=ZBc h.tail
  refine ⟨List.pairwise_cons.2 ⟨fun y hy => ?_,p1⟩,fun s hs => ?_⟩
  ·have h1:=(Z9L h.tail hy).1
   cases l with
   | nil => cases hy
   | cons z l =>
    have h2:=h.gap 0 x z rfl rfl
    have h3:fstT (z :: l) = z.From:=rfl
    omega
  ·rcases List.mem_cons.1 hs with rfl | hs
   ·exact (h.ok 0 _ rfl).2.2
   ·exact p2 s hs
theorem glue_norm {a b:List Span} (ha:Z3y a) (hb:Z3y b) (ho:∀ x ∈ a,∀ y ∈ b,x.To < y.From):Z3y (glue a b)∧∀ t,hasT (glue a b) t ↔ hasT a t∨hasT b t:=by
 by_cases h:a = []
 ·subst h;rw [Z7V];exact ⟨hb,fun t => ⟨.inr,fun h => h.resolve_left Z3j⟩⟩
 obtain ⟨a',x,rfl⟩:=Z8L h
 cases b with
 | nil =>
  rw [Z7l];exact ⟨ha,fun t => ⟨.inl,fun h => h.resolve_right Z3j⟩⟩
 | cons s l =>
  obtain ⟨q1,q2,q3⟩:=ZCG ha
  obtain ⟨b1,b2⟩:=List.pairwise_cons.1 hb.1
  have hs:=hb.2 s YK
  have hxs:=ho x (by simp) s YK
  have hl:∀ y ∈ l,y.From≤y.To:=fun y hy => hb.2 y (YN _ hy)
  rw [Z56];unfold seam
  by_cases hc:s.From = x.To + 1
  ·rw [if_pos hc];refine ⟨⟨List.pairwise_append.2 ⟨q1.1,List.pairwise_cons.2 ⟨b1,b2⟩,fun p hp q hq => ?_⟩,fun p hp => ?_⟩,fun t => ?_⟩
   ·have h1:=q3 p hp
    rcases List.mem_cons.1 hq with rfl | hq
    ·exact h1
    ·have:=b1 q hq;omega
   ·rcases List.mem_append.1 hp with hp | hp
    ·exact q1.2 p hp
    ·rcases List.mem_cons.1 hp with rfl | hp
     ·show x.From≤s.To;omega
     ·exact hl p hp
   ·have:(x.From≤t∧t≤s.To) ↔ (x.From≤t∧t≤x.To)∨(s.From≤t∧t≤s.To):=by omega
    simp only [Z7p,Z3H,Z3j,or_false,or_assoc,this]
  ·rw [if_neg hc];have e:a' ++ ([x,s] ++ l) = (a' ++ [x]) ++ (s :: l):=by simp
   rw [e];refine ⟨⟨List.pairwise_append.2 ⟨ha.1,hb.1,fun p hp q hq => ?_⟩,fun p hp => ?_⟩,fun t => Z7p⟩
   ·have hpx:p.To + 1 < x.From∨p = x:=by
     rcases List.mem_append.1 hp with hp | hp
     ·exact .inl (q3 p hp)
     ·rw [YD] at hp;exact .inr hp
    have hqs:s.To + 1 < q.From∨q = s:=by
     rcases List.mem_cons.1 hq with hq | hq
     ·exact .inr hq
     ·exact .inl (b1 q hq)
    rcases hpx with h1 | rfl <;> rcases hqs with h2 | rfl <;> omega
   ·rcases List.mem_append.1 hp with hp | hp
    ·exact ha.2 p hp
    ·exact hb.2 p hp
theorem ZC3 {P:List Int} (hs:P.Pairwise (· < ·)) {k:Nat} (hk:k + 1 < P.length) {z:Int} (hz:z ∈ P):z≤P[k]∨P[k + 1]≤z:=by
 obtain ⟨j,hj,rfl⟩:=Y03 hz
 have hp:=List.pairwise_iff_getElem.1 hs
 rcases Nat.lt_trichotomy j k with h | rfl | h
 ·have:=hp j k hj (by omega) h;omega
 ·exact .inl (Y04 _)
 ·by_cases h2:j = k + 1
  ·subst h2;exact .inr (Y04 _)
  ·have:=hp (k + 1) j hk hj (by omega);omega
theorem flat_has {l:List Span} {P:List Int} (hs:P.Pairwise (· < ·)) (hp:∀ z,isPl l z→z ∈ P) {k:Nat} (hk:k + 1 < P.length) {t:Int} (h1:P[k]≤t) (h2:t < P[k + 1]):hasT l t ↔ hasT l P[k]:=by
 constructor
 ·rintro ⟨u,hu,u1,u2⟩;have:=ZC3 hs hk (hp u.From ⟨u,hu,.inl rfl⟩)
  exact ⟨u,hu,by omega,by omega⟩
 ·rintro ⟨u,hu,u1,u2⟩;have:=ZC3 hs hk (hp (u.To + 1) ⟨u,hu,.inr rfl⟩)
  exact ⟨u,hu,by omega,by omega⟩
theorem set1_eq {a b:List Span} (ha:a.length≤100000000) (hb:b.length≤100000000) (ma:midT a) (mb:midT b) :
  ∃ r,Z0c 1 a b = some r∧Z3y r∧∀ t,hasT r t ↔ hasT a t∨hasT b t:=by
 obtain ⟨P,e1,s1,m1,l1⟩:=places_eq ha hb ma mb
 have hr:=Z1F
 unfold Z0c
 rw [e1,Y0]
 have hpm:∀ z ∈ P,-4611686018427387904≤z∧z≤4611686018427387905:=fun z hz => by
  rcases (m1 z).1 hz with ⟨u,hu,h⟩ | ⟨u,hu,h⟩
  ·have:=ma u hu;omega
  ·have:=mb u hu;omega
 have hpa:∀ z,isPl a z→z ∈ P:=fun z h => (m1 z).2 (.inl h)
 have hpb:∀ z,isPl b z→z ∈ P:=fun z h => (m1 z).2 (.inr h)
 by_cases hP:P = []
 ·subst hP;have e:loopO (Z0c.s0 1 a b []) (0,[]) = some []:=by
   rw [Z45];rfl
  rw [e];refine ⟨[],rfl,Z6b,fun t => ⟨fun h => absurd h Z3j,?_⟩⟩
  rintro (⟨u,hu,_⟩ | ⟨u,hu,_⟩)
  ·have:=hpa u.From ⟨u,hu,.inl rfl⟩;cases this
  ·have:=hpb u.From ⟨u,hu,.inl rfl⟩;cases this
 have hP0:=List.length_pos_iff.2 hP
 have hpw:=List.pairwise_iff_getElem.1 s1
 obtain ⟨r,q1,q2,q3⟩:=Z0Y (step:=Z0c.s0 1 a b P)
  (I:=fun s => ∃ (k:Nat) (hk:k < P.length),s.1 = (k:Int)∧Z3y s.2∧(∀ x ∈ s.2,x.To < P[k])∧(∀ t,hasT s.2 t ↔ t < P[k]∧(hasT a t∨hasT b t))∧s.2.length≤k)
  (fun s => P.length - s.1.toNat) (fun r => Z3y r∧∀ t,hasT r t ↔ hasT a t∨hasT b t) (by
   rintro ⟨i,out⟩ ⟨k,hk,e,hn,hto,hh,hlen⟩;simp only at e hn hto hh hlen;subst e;unfold Z0c.s0;simp only [];have hw:w64 ((k:Int) + 1) = ((k + 1:Nat):Int):=by rw [Z1 (by omega)];push_cast;rfl
   rw [hw]
   by_cases hlt:k + 1 < P.length
   ·left
    rw [ZC (show ((k + 1:Nat):Int) < P.length by omega),cond_true,at?_nat hk,at?_nat hlt]
    simp only [Y0];have hk1:=hpm _ (YE hk)
    have hk2:=hpm _ (YE hlt)
    have hkk:=hpw k (k + 1) hk hlt (by omega)
    have fa:∀ t,P[k]≤t→t < P[k + 1]→(hasT a t ↔ hasT a P[k]):=fun t h1 h2 => flat_has (l:=a) s1 hpa hlt (t:=t) h1 h2
    have fb:∀ t,P[k]≤t→t < P[k + 1]→(hasT b t ↔ hasT b P[k]):=fun t h1 h2 => flat_has (l:=b) s1 hpb hlt (t:=t) h1 h2
    generalize P[k] = p at *
    generalize hp':P[k + 1] = p' at *
    have fin:∀ X:List Span,Z3y X→(∀ x ∈ X,x.To < p')→(∀ t,hasT X t ↔ t < p'∧(hasT a t∨hasT b t))→X.length≤k + 1 →
      ∃ (k1:Nat) (hk1:k1 < P.length),((((k + 1:Nat):Int),X):Int × List Span).1 = (k1:Int)∧Z3y X∧(∀ x ∈ X,x.To < P[k1])∧(∀ t,hasT X t ↔ t < P[k1]∧(hasT a t∨hasT b t))∧X.length≤k1 :=
     fun X x1 x2 x3 x4 => ⟨k + 1,hlt,rfl,x1,by rw [hp'];exact x2,by rw [hp'];exact x3,x4⟩
    have hmeas:∀ X:List Span,P.length - ((((k + 1:Nat):Int),X):Int × List Span).1.toNat < P.length - (((k:Int),out):Int × List Span).1.toNat:=by
     intro X;simp only [Y0J];omega
    have hsel:∀ A B:Bool,Z4Q 1 A B = (A || B):=fun A B => rfl
    have yes:(hasT a p∨hasT b p)→∀ X:List Span,(∀ t,hasT X t ↔ hasT out t∨(p≤t∧t < p'))→∀ t,hasT X t ↔ t < p'∧(hasT a t∨hasT b t):=fun hin X hX t => by
     rw [hX,hh]
     constructor
     ·rintro (⟨h1,h2⟩ | ⟨h1,h2⟩)
      ·exact ⟨by omega,h2⟩
      ·exact ⟨h2,by rw [fa t h1 h2,fb t h1 h2];exact hin⟩
     ·rintro ⟨h1,h2⟩
      by_cases h3:t < p
      ·exact .inl ⟨h3,h2⟩
      ·exact .inr ⟨by omega,h1⟩
    have no:¬ (hasT a p∨hasT b p)→∀ t,hasT out t ↔ t < p'∧(hasT a t∨hasT b t):=fun hin t => by
     rw [hh]
     constructor
     ·rintro ⟨h1,h2⟩;exact ⟨by omega,h2⟩
     ·rintro ⟨h1,h2⟩
      by_cases h3:t < p
      ·exact ⟨h3,h2⟩
      ·rw [fa t (by omega) h1,fb t (by omega) h1] at h2
       exact absurd h2 hin
    have hboth:∃ A B:Bool,Z00 a p = some A∧Z00 b p = some B∧((A || B) = true ↔ (hasT a p∨hasT b p)):=by
     rcases Z6m (l:=a) (by omega) p with ⟨ea,hA⟩ | ⟨ea,hA⟩ <;> rcases Z6m (l:=b) (by omega) p with ⟨eb,hB⟩ | ⟨eb,hB⟩
     ·exact ⟨_,_,ea,eb,by simp [hA]⟩
     ·exact ⟨_,_,ea,eb,by simp [hA]⟩
     ·exact ⟨_,_,ea,eb,by simp [hB]⟩
     ·exact ⟨_,_,ea,eb,by simp [hA,hB]⟩
    obtain ⟨A,B,ea,eb,hAB⟩:=hboth
    rw [ea,eb];simp only [Y0,hsel];cases hc:(A || B) with
    | false =>
     have hin:¬ (hasT a p∨hasT b p):=fun h => by rw [hAB.2 h] at hc;cases hc
     simp only [Yq,cond_true,Y0,Jx.elim];exact ⟨_,rfl,fin out hn (fun x hx => by have:=hto x hx;omega) (no hin) (by omega),hmeas _⟩
    | true =>
     have hin:=hAB.1 hc
     simp only [YQ,cond_false]
     by_cases hout:out = []
     ·subst hout;rw [ZB (show ¬ ((([] : List Span).length:Int) > 0) by simp),cond_false]
      simp only [Y0,cond_false];rw [app?_ok (by simp only [YX,YI];omega),Z1 (x:=p' - 1) (by omega)]
      simp only [Y0,Jx.elim,Y02];refine ⟨_,rfl,fin _ (Z9C (o:=[]) Z6b (by simp only;omega) (by simp)) (fun x hx => ?_) (yes hin _ fun t => ?_) (by simp),hmeas _⟩
      ·rw [YD] at hx;subst hx;show p' - 1 < p';omega
      ·rw [Z3H]
       constructor
       ·rintro (h | h)
        ·exact .inr ⟨h.1,by have:=h.2;simp only at this;omega⟩
        ·exact .inl h
       ·rintro (h | h)
        ·exact .inr h
        ·exact .inl ⟨h.1,by show t≤p' - 1;omega⟩
     ·obtain ⟨o,x,rfl⟩:=Z8L hout
      obtain ⟨n1,n2,n3⟩:=ZCG hn
      have hxp:=hto x (by simp)
      have hol:o.length + 1≤k:=by simpa using hlen
      have hlw:w64 (((o ++ [x]).length:Int) - 1) = (o.length:Int):=by
       rw [Z1 (by simp only [YG,YI];omega)];simp
      rw [ZC (show (((o ++ [x]).length:Nat):Int) > 0 by simp),cond_true,hlw,at?_nat (by simp)]
      have hgl:(o ++ [x])[o.length]'(by simp) = x:=by simp
      rw [hgl];simp only [Y0];rw [Z1 (x:=p - 1) (by omega),Z1 (x:=p' - 1) (by omega)]
      by_cases hadj:x.To = p - 1
      ·rw [Z6O hadj,cond_true];have hset:(o ++ [x]).set ((o.length:Int)).toNat (Span.mk x.From (p' - 1)) = o ++ [Span.mk x.From (p' - 1)]:=by simp
       rw [hset];simp only [Y0,Jx.elim];refine ⟨_,rfl,fin _ (Z9C n1 (by simp only;omega) n3) (fun y hy => ?_) (yes hin _ fun t => ?_) (by simp;omega),hmeas _⟩
       ·rcases List.mem_append.1 hy with hy | hy
        ·have:=hto y (YZ _ hy);omega
        ·rw [YD] at hy;subst hy;show p' - 1 < p';omega
       ·rw [Z7p,Z7p,Z3H,Z3H,or_assoc];simp only [Z3j,or_false,false_or]
        constructor
        ·rintro (h | h)
         ·exact .inl h
         ·by_cases h3:t≤x.To
          ·exact .inr (.inl ⟨h.1,h3⟩)
          ·exact .inr (.inr (by omega))
        ·rintro (h | h | h)
         ·exact .inl h
         ·exact .inr (by omega)
         ·exact .inr (by omega)
      ·rw [Z3L hadj,cond_false,app?_ok (by simp only [YG,YI];omega)]
       simp only [Y0,Jx.elim];refine ⟨_,rfl,fin _ (Z9C hn (by simp only;omega) fun s hs => ?_) (fun y hy => ?_) (yes hin _ fun t => ?_) (by simp only [YG,YI];omega),hmeas _⟩
       ·show s.To + 1 < p
        rcases List.mem_append.1 hs with hs | hs
        ·have:=n3 s hs;omega
        ·rw [YD] at hs;subst hs;omega
       ·rcases List.mem_append.1 hy with hy | hy
        ·have:=hto y hy;omega
        ·rw [YD] at hy;subst hy;show p' - 1 < p';omega
       ·rw [Z7p,Z3H];simp only [Z3j,or_false]
        constructor
        ·rintro (h | h)
         ·exact .inl h
         ·exact .inr (by omega)
        ·rintro (h | h)
         ·exact .inl h
         ·exact .inr (by omega)
   ·right
    rw [ZB (show ¬ (((k + 1:Nat):Int) < P.length) by omega),cond_false]
    refine ⟨_,rfl,hn,fun t => ?_⟩
    rw [hh];refine ⟨fun h => h.2,fun h => ⟨?_,h⟩⟩
    have:∃ z ∈ P,t < z:=by
     rcases h with ⟨u,hu,u1,u2⟩ | ⟨u,hu,u1,u2⟩
     ·exact ⟨u.To + 1,hpa _ ⟨u,hu,.inr rfl⟩,by omega⟩
     ·exact ⟨u.To + 1,hpb _ ⟨u,hu,.inr rfl⟩,by omega⟩
    obtain ⟨z,hz,htz⟩:=this
    obtain ⟨j,hj,rfl⟩:=Y03 hz
    by_cases hjk:j = k
    ·subst hjk;exact htz
    ·have:=hpw j k hj hk (by omega);omega) (0,[]) ⟨0,hP0,rfl,Z6b,fun x hx => (by cases hx),fun t => ⟨fun h => absurd h Z3j,fun ⟨h1,h2⟩ => by
   exfalso
   have:∃ z ∈ P,z≤t:=by
    rcases h2 with ⟨u,hu,u1,u2⟩ | ⟨u,hu,u1,u2⟩
    ·exact ⟨u.From,hpa _ ⟨u,hu,.inl rfl⟩,u1⟩
    ·exact ⟨u.From,hpb _ ⟨u,hu,.inl rfl⟩,u1⟩
   obtain ⟨z,hz,htz⟩:=this
   obtain ⟨j,hj,rfl⟩:=Y03 hz
   by_cases hj0:j = 0
   ·subst hj0;omega
   ·have:=hpw 0 j hP0 hj (by omega);omega⟩,by simp⟩
 rw [q1]
 exact ⟨r,rfl,q2,q3⟩
theorem set1_glue {a b:List Span} (ha:a.length≤100000000) (hb:b.length≤100000000) (ta:Z15 a) (tb:Z15 b) (na:Z3y a) (nb:Z3y b) (ho:∀ x ∈ a,∀ y ∈ b,x.To < y.From):Z0c 1 a b = some (glue a b):=by
 have mid:∀ {l:List Span},Z15 l→midT l:=fun h u hu => by
  have:=h u hu
  unfold Z3 at this;omega
 obtain ⟨r,h1,h2,h3⟩:=set1_eq ha hb (mid ta) (mid tb)
 obtain ⟨g1,g2⟩:=glue_norm na nb ho
 rw [h1,norm_uniq h2 g1 fun t => by rw [h3,g2]]
theorem glue_to {a b:List Span} {x:Span} (h:x ∈ glue a b):(∃ s ∈ a,s.To = x.To)∨∃ s ∈ b,s.To = x.To:=by
 by_cases ha:a = []
 ·subst ha;rw [Z7V] at h;exact .inr ⟨x,h,rfl⟩
 obtain ⟨a',y,rfl⟩:=Z8L ha
 cases b with
 | nil => rw [Z7l] at h;exact .inl ⟨x,h,rfl⟩
 | cons s l =>
  rw [Z56] at h
  rcases List.mem_append.1 h with h | h
  ·exact .inl ⟨x,YZ _ h,rfl⟩
  ·rcases List.mem_append.1 h with h | h
   ·unfold seam at h
    split at h
    ·rw [YD] at h;subst h;exact .inr ⟨s,YK,rfl⟩
    ·rcases List.mem_cons.1 h with rfl | h
     ·exact .inl ⟨x,by simp,rfl⟩
     ·rw [YD] at h;subst h;exact .inr ⟨x,YK,rfl⟩
   ·exact .inr ⟨x,YN _ h,rfl⟩
theorem gl_to {h:Int→List Span} {a:Int} {x:Span}:∀ {n:Nat},x ∈ gl h a n→∃ j:Nat,j < n∧∃ s ∈ h (a + j),s.To = x.To
 | 0,hx => by cases hx
 | n + 1,hx => by
  rcases glue_to hx with ⟨s,hs,e⟩ | ⟨s,hs,e⟩
  ·obtain ⟨j,h1,u,h2,h3⟩:=gl_to hs
   exact ⟨j,by omega,u,h2,by rw [h3,e]⟩
  ·exact ⟨n,by omega,s,hs,e⟩
theorem Z5s {f:Form} {raw:Bool} {tell:Int→Option (List Span × Int)} {h:Int→List Span} {a:Int} {m B:Nat} (hm:m * B≤4000000) (hm2:m≤4000000) (hB:B≤4000000) (ha : -4611686018427387904≤a∧a≤4611686018427387904)
  (hin:∀ j:Nat,j < m→∃ x1,Z0h f (a + j) = some x1∧(bif raw then (Z0v f (a + j)).bind fun x2 => some (x2.1,x2.2) else some (x1.1,x1.2)) = tell (a + j))
  (ht:∀ j:Nat,j < m→(tell (a + j) = some (h (a + j),0)∧(h (a + j)).length≤B∧Z15 (h (a + j)))∨tell (a + j) = some ([],20))
  (hr:∀ j:Nat,j < m→tell (a + j) = some (h (a + j),0)→RightL (h (a + j)))
  (ho:∀ i j:Nat,i < j→j < m→tell (a + i) = some (h (a + i),0)→tell (a + j) = some (h (a + j),0)→Z7q (h (a + i)) (h (a + j))) :
  (Zd f a m raw = some (gl h a m,0)∧∀ j:Nat,j < m→tell (a + j) = some (h (a + j),0)) ∨
  (Zd f a m raw = some ([],20)∧∃ j:Nat,j < m∧tell (a + j) = some ([],20)):=by
 obtain ⟨r,q1,q2⟩:=Z0Y (step:=Zd.s0 f a m raw)
  (fun s => ∃ k:Nat,k≤m∧s = (gl h a k,a + k)∧Z3y (gl h a k)∧∀ j:Nat,j < k→(h (a + j)).length≤B∧Z15 (h (a + j))∧tell (a + j) = some (h (a + j),0))
  (fun s => (a + m - s.2).toNat)
  (fun r => (r = .go (gl h a m)∧∀ j:Nat,j < m→tell (a + j) = some (h (a + j),0))∨(r = .ret ([],20)∧∃ j:Nat,j < m∧tell (a + j) = some ([],20))) (by
   rintro s ⟨k,hk,rfl,hn,hall⟩;unfold Zd.s0;simp only;rw [Z1 (x:=a + (m:Int)) (by omega)]
   by_cases hlt:k < m
   ·rw [ZC (show a + (k:Int) < a + m by omega),cond_true]
    obtain ⟨x1,g1,g2⟩:=hin k hlt
    rw [g1];simp only [Y0];rw [g2]
    rcases ht k hlt with ⟨t1,t2,t3⟩ | t1
    ·left
     rw [t1];obtain ⟨f1,f2⟩:=Z7w (B:=B) (n:=k) fun j hj => ⟨(hall j hj).1,(hall j hj).2.1⟩
     have hkB:k * B≤m * B:=YL _ hk
     have hnk:=ZBc (hr k hlt t1)
     have hord:∀ x ∈ gl h a k,∀ y ∈ h (a + k),x.To < y.From:=fun x hx y hy => by
      obtain ⟨j,j1,s,s1,s2⟩:=gl_to hx
      have:=ho j k j1 hlt (hall j j1).2.2 t1 s s1 y hy
      omega
     simp only [Y0,bne_self_eq_false,cond_false];rw [set1_glue (by omega) (by omega) f2 t3 hn hnk hord]
     simp only [Y0,Jx.elim];rw [Z1 (x:=a + (k:Int) + 1) (by omega)]
     refine ⟨_,rfl,⟨k + 1,hlt,by push_cast;rw [← Int.add_assoc];rfl,(glue_norm hn hnk hord).1,fun j hj => ?_⟩,by simp only;omega⟩
     by_cases hjk:j = k
     ·subst hjk;exact ⟨t2,t3,t1⟩
     ·exact hall j (by omega)
    ·right
     rw [t1];exact ⟨_,rfl,.inr ⟨rfl,k,hlt,t1⟩⟩
   ·right
    obtain rfl:k = m:=by omega
    rw [ZB (by omega),cond_false]
    exact ⟨_,rfl,.inl ⟨rfl,fun j hj => (hall j hj).2.2⟩⟩) ([],a) ⟨0,YS _,by simp [gl],Z6b,fun j hj => absurd hj (Y0f _)⟩
 unfold Zd
 rw [q1]
 rcases q2 with ⟨rfl,h1⟩ | ⟨rfl,h1⟩
 ·exact .inl ⟨rfl,h1⟩
 ·exact .inr ⟨rfl,h1⟩
end Go.Dn

namespace Go.Dn
open Go
theorem raw_both {f:Form} {B:Nat} (hl:Lim f) (hr:RightF f) (hnl:¬ Z22 f) (hb:BndB f B) {a:Int} {m:Nat} (hm:m * B≤4000000) (hm2:m≤4000000) (hB:B≤4000000) (ha : -4611686018427387904≤a∧a≤4611686018427387904) :
  ∃ l e,Za (fun z0 => ZV z0 f) a m = some (l,e)∧Zd f a m true = some (l,e)∧(e = 0∨(e = 20∧l = [])):=by
 have hs:=hr.shape
 have ht:∀ j:Nat,j < m→(ZV (a + j) f = some (csz f (a + j),0)∧(csz f (a + j)).length≤B∧Z15 (csz f (a + j)))∨ZV (a + j) f = some ([],20):=fun j hj => raw_tell hl hs hb (by unfold In64;omega)
 have hrt:∀ j:Nat,j < m→ZV (a + j) f = some (csz f (a + j),0)→RightL (csz f (a + j)):=fun j hj h => by
  rcases ht j hj with ⟨_,_,t⟩ | h'
  ·by_cases h0:f.Count = 0
   ·have:csz f (a + j) = []:=if_pos h0
    rw [this];exact ⟨by simp,by simp⟩
   ·have e:csz f (a + j) = (Z0f f (a + j)).map (ZY ((a + j) / f.Count * f.Period)):=by rw [Z6x (by have:=hs.count;omega)];rfl
    rw [e] at t ⊢;refine (hs.core _ (Z0H hs h0 _).2).shift fun s hs' => ?_
    exact t _ (List.mem_map.2 ⟨s,hs',rfl⟩)
  ·rw [h] at h';have:=(Prod.mk.inj (Option.some.inj h')).2
   omega
 have hord:∀ i j:Nat,i < j→j < m→ZV (a + i) f = some (csz f (a + i),0)→ZV (a + j) f = some (csz f (a + j),0)→Z7q (csz f (a + i)) (csz f (a + j)):=fun i j hij hj h1 h2 => by
  have r1:=hrt i (by omega) h1
  have r2:=hrt j hj h2
  rw [Z1P r1 r2]
  by_cases n1:csz f (a + i) = []
  ·rw [n1];exact Z3G _
  by_cases n2:csz f (a + j) = []
  ·rw [n2];intro x _ y hy;cases hy
  rw [Z2L n1 n2];exact csz_order hs hr.turns (by omega) n1 n2
 have hin:∀ j:Nat,j < m→∃ x1,Z0h f (a + j) = some x1∧(bif true then (Z0v f (a + j)).bind fun x2 => some (x2.1,x2.2) else some (x1.1,x1.2)) = ZV (a + j) f:=fun j hj => by
  have h64:In64 (a + j):=by unfold In64;omega
  refine ⟨_,by rw [Z4T hl hs hnl h64,Z1I hl hs h64],?_⟩
  obtain ⟨l,e,h1,h2,_⟩:=Z72 hl hs hnl h64
  unfold ZV;rw [h1,h2]
  rfl
 rcases Z5x (tell:=fun z0 => ZV z0 f) (h:=csz f) hm hm2 hB ha ht with ⟨g1,g2⟩ | ⟨g1,j,j1,g2⟩
 ·rcases Z5s (f:=f) (raw:=true) (tell:=fun z0 => ZV z0 f) (h:=csz f) hm hm2 hB ha hin ht hrt hord with ⟨t1,t2⟩ | ⟨t1,j,j1,t2⟩
  ·exact ⟨_,_,g1,t1,.inl rfl⟩
  ·have:=(g2 j j1).2.2
   rw [t2] at this;have:=(Prod.mk.inj (Option.some.inj this)).2
   omega
 ·rcases Z5s (f:=f) (raw:=true) (tell:=fun z0 => ZV z0 f) (h:=csz f) hm hm2 hB ha hin ht hrt hord with ⟨t1,t2⟩ | ⟨t1,_⟩
  ·have:=t2 j j1
   rw [g2] at this;have:=(Prod.mk.inj (Option.some.inj this)).2
   omega
  ·exact ⟨_,_,g1,t1,.inr ⟨rfl,rfl⟩⟩
theorem get_both {f:Form} {B:Nat} (hl:Lim f) (hr:RightF f) (hnl:¬ Z22 f) (hb:BndB f B) {a:Int} {m:Nat} (hm:m * B≤4000000) (hm2:m≤4000000) (hB:B≤4000000) (ha : -4611686018427387904≤a∧a≤4611686018427387904) :
  ∃ l e,Za (fun z0 => ZQ z0 f) a m = some (l,e)∧Zd f a m false = some (l,e)∧(e = 0∨(e = 20∧l = [])):=by
 have hs:=hr.shape
 have ht:∀ j:Nat,j < m→(ZQ (a + j) f = some (ZH f (a + j),0)∧(ZH f (a + j)).length≤B∧Z15 (ZH f (a + j)))∨ZQ (a + j) f = some ([],20):=fun j hj => get_tell hl hs hb (by unfold In64;omega)
 have hok:∀ j:Nat,j < m→ZQ (a + j) f = some (ZH f (a + j),0)→Z3 (a + j)∧fits f (a + j):=fun j hj h => by
  unfold ZQ at h;rw [Z1I hl hs (by unfold In64;omega)] at h
  by_cases hc:Z3 (a + j)∧fits f (a + j)
  ·exact hc
  ·rw [if_neg hc] at h;have:=(Prod.mk.inj (Option.some.inj h)).2
   simp at this
 have hrt:∀ j:Nat,j < m→ZQ (a + j) f = some (ZH f (a + j),0)→RightL (ZH f (a + j)):=fun j hj h => Z5i hs (hok j hj h).2
 have hord:∀ i j:Nat,i < j→j < m→ZQ (a + i) f = some (ZH f (a + i),0)→ZQ (a + j) f = some (ZH f (a + j),0)→Z7q (ZH f (a + i)) (ZH f (a + j)):=fun i j hij hj h1 h2 => by
  have r1:=hrt i (by omega) h1
  have r2:=hrt j hj h2
  have o1:=hok i (by omega) h1
  have o2:=hok j hj h2
  rw [Z1P r1 r2]
  by_cases n1:ZH f (a + i) = []
  ·rw [n1];exact Z3G _
  by_cases n2:ZH f (a + j) = []
  ·rw [n2];intro x _ y hy;cases hy
  rw [Z2L n1 n2];exact RightF.order hl hr _ (a + i) (a + j) rfl (by omega) o1.1 o2.1 o1.2 o2.2 n1 n2
 have hin:∀ j:Nat,j < m→∃ x1,Z0h f (a + j) = some x1∧(bif false then (Z0v f (a + j)).bind fun x2 => some (x2.1,x2.2) else some (x1.1,x1.2)) = ZQ (a + j) f:=fun j hj => by
  have h64:In64 (a + j):=by unfold In64;omega
  have e:Z0h f (a + j) = Z0F f (a + j):=Z4T hl hs hnl h64
  refine ⟨_,by rw [e,Z1I hl hs h64],?_⟩
  unfold ZQ;rw [Z1I hl hs h64]
  rfl
 rcases Z5x (tell:=fun z0 => ZQ z0 f) (h:=ZH f) hm hm2 hB ha ht with ⟨g1,g2⟩ | ⟨g1,j,j1,g2⟩
 ·rcases Z5s (f:=f) (raw:=false) (tell:=fun z0 => ZQ z0 f) (h:=ZH f) hm hm2 hB ha hin ht hrt hord with ⟨t1,t2⟩ | ⟨t1,j,j1,t2⟩
  ·exact ⟨_,_,g1,t1,.inl rfl⟩
  ·have:=(g2 j j1).2.2
   rw [t2] at this;have:=(Prod.mk.inj (Option.some.inj this)).2
   omega
 ·rcases Z5s (f:=f) (raw:=false) (tell:=fun z0 => ZQ z0 f) (h:=ZH f) hm hm2 hB ha hin ht hrt hord with ⟨t1,t2⟩ | ⟨t1,_⟩
  ·have:=t2 j j1
   rw [g2] at this;have:=(Prod.mk.inj (Option.some.inj this)).2
   omega
  ·exact ⟨_,_,g1,t1,.inr ⟨rfl,rfl⟩⟩
theorem rounds_both {f:Form} (hs:Shape f) (h12:f.Core.length≤12) (h0:0 < f.Count) {m:Nat} (m1:1≤m) (m2:m≤6000) :
  ∃ u v:Nat,Z0j f m = some ((v:Int),f.Count * u)∧Z01 f.Count m = some (f.Count * u)∧f.Count * (u:Int) = v * m∧1≤u∧u≤m∧1≤v∧v≤12:=by
 obtain ⟨u,v,r1,r2,u1,u2,v1,v2⟩:=rounds_eq hs h12 h0 m1 m2
 refine ⟨u,v,r1,?_,r2,u1,u2,v1,v2⟩
 have hcnt:=hs.count
 obtain ⟨c,hc⟩ : ∃ c:Nat,f.Count = c:=⟨f.Core.length,hcnt⟩
 have hcl:c≤12:=by omega
 have hlcm:c * u = Nat.lcm c m:=by
  unfold Z0j at r1;rw [Z3L (show ¬ f.Count = 0 by omega),cond_false,ZBH (by unfold In64;omega) (by unfold In64;omega)] at r1
  simp only [Y0] at r1;rw [nz?_ok (by omega)] at r1
  simp only [Y0] at r1;have h:=(Prod.mk.inj (Option.some.inj r1)).2
  rw [hc] at h;unfold lcmS at h;rw [if_neg (by omega)] at h
  simp only [Int.natAbs_natCast] at h;have e1:c / Nat.gcd c m * m = Nat.lcm c m:=by
   unfold Nat.lcm;rw [Nat.mul_comm c m,Nat.mul_div_assoc _ (Nat.gcd_dvd_left c m),Nat.mul_comm]
  have e2:Nat.lcm c m≤c * m:=Nat.le_of_dvd (Nat.mul_pos (by omega) (by omega)) (Nat.lcm_dvd (Nat.dvd_mul_right _ _) (Nat.dvd_mul_left _ _))
  have e3:c * m≤12 * 6000:=Y09 hcl m2
  have e4:((c / Nat.gcd c m:Nat):Int) * (m:Int) = ((Nat.lcm c m:Nat):Int):=by rw [← e1];push_cast;rfl
  rw [e4,Z9f (by unfold In64;omega)] at h
  simp only at h;have e5:((c:Int) * (u:Int)) = ((c * u:Nat):Int):=by push_cast;rfl
  rw [e5] at h;omega
 have hcu:c * u≤12 * 6000:=Y09 hcl (by omega)
 unfold Z01
 rw [hc] at h0 ⊢
 have key:loopO (Z01.s0 (c:Int) (m:Int)) (c:Int) = some ((c:Int) * u):=by
  refine Z0s (I:=fun s r => r = (c:Int) * u∧∃ k:Nat,1≤k∧k≤u∧s = ((c * k:Nat):Int)) (fun s => c * u - s.toNat) ?_ ⟨rfl,1,YC _,u1,by rw [Nat.mul_one]⟩
  rintro s r ⟨rfl,k,k1,k2,rfl⟩;unfold Z01.s0;have hck:c * k≤c * u:=Nat.mul_le_mul_left _ k2
  rw [nz?_ok (by omega)]
  simp only [Y0];have emod:(((c * k:Nat):Int).tmod (m:Int)) = ((c * k % m:Nat):Int):=by
   rw [Y0a (by omega)];push_cast;rfl
  rw [emod]
  by_cases hz:c * k % m = 0
  ·right
   have hd:Nat.lcm c m ∣ c * k:=Nat.lcm_dvd (Nat.dvd_mul_right _ _) (Nat.dvd_of_mod_eq_zero hz)
   have hle:=Nat.le_of_dvd (Nat.mul_pos (by omega) k1) hd
   have he:c * k = c * u:=by omega
   rw [hz,Z4d (by rfl),cond_false,he]
   push_cast
   rfl
  ·left
   have hku:k < u:=by
    rcases YF k u with h | h
    ·exact h
    ·exfalso
     have:k = u:=by omega
     subst this;apply hz;rw [hlcm];exact Nat.mod_eq_zero_of_dvd (Nat.dvd_lcm_right c m)
   have hck1:c * (k + 1)≤c * u:=Nat.mul_le_mul_left _ hku
   have e1:c * (k + 1) = c * k + c:=Nat.mul_succ c k
   rw [Z78 (by omega),cond_true,Z1 (by omega)]
   refine ⟨_,rfl,⟨(by first | rfl | trivial),k + 1,by omega,hku,by rw [e1];push_cast;rfl⟩,?_⟩
   omega
 rw [key]
 rfl
theorem plain_both {f:Form} {B:Nat} (hl:Lim f) (hr:RightF f) (hnl:¬ Z22 f) (hb:BndB f B) {m:Nat} (m1:1≤m) (m2:m≤200) (hB:B≤8640) :
  ∃ g e,ZS f m = some (g,e) ∧
   (bif (decide (f.Count > 0)) then
    (Z01 f.Count m).bind fun x1 =>
    (loopO (ZK.s0 f x1) (0,0)).bind fun (y2:Int) =>
    (bif (decide (y2 > 60000)) then
     some (.ret ((Form.mk 0 0 [] []),3))
    else
     (nz? f.Count).bind fun u2 =>
     (nz? f.Period).bind fun u3 =>
     (bif (decide ((w64 (x1.tdiv f.Count)) > (w64 ((1099511627776:Int).tdiv f.Period)))) then
      some (.ret ((Form.mk 0 0 [] []),20))
     else
      (nz? (m:Int)).bind fun u4 =>
      (nz? f.Count).bind fun u5 =>
      (loopO (ZK.s1 f m x1) (0,[])).bind fun (y3:Jx ((List (List Span)) × Int × Int) (Form × Int)) =>
      y3.elim (fun r' =>
        some (.ret r')) fun a3 =>
      some (.go (a3.1,a3.2.1,a3.2.2))))
   else
    some (.go ([],0,0))) = some (if e = 0 then Jx.go (g.Core,g.Period,g.Count) else Jx.ret (Form.mk 0 0 [] [],e)):=by
 have hs:=hr.shape
 have hcnt:=hs.count
 have hper:=hs.per
 have hcore:=hb.core
 have hmB:m * B≤200 * 8640:=Y09 m2 hB
 unfold ZS
 by_cases h0:f.Count = 0
 ·have:Z0j f m = some (0,0):=by unfold Z0j;rw [Z6O h0];rfl
  rw [this,ZB (show ¬ f.Count > 0 by omega)]
  exact ⟨_,_,rfl,rfl⟩
 ·obtain ⟨u,v,r1,r3,r2,u1,u2,v1,v2⟩:=rounds_both hs hcore (by omega) m1 (by omega)
  rw [r1,r3,ZC (show f.Count > 0 by omega),cond_true]
  simp only [Y0];rw [Z3L (show ¬ (v:Int) = 0 by omega),cond_false]
  have ediv:(f.Count * (u:Int)).tdiv f.Count = u:=Int.mul_tdiv_cancel_left _ h0
  obtain ⟨z,z',hz,hz',hzz,z0,z1⟩:=Z6d (p:=ZS.s0 f) (q:=ZK.s0 f (f.Count * u))
   (I:=fun s t => ∃ (k z:Nat),k≤f.Core.length∧s = ((z:Int),(k:Int))∧t = ((z:Int) * u,(k:Int))∧z≤k * B) (m:=fun s => f.Core.length - s.2.toNat) (post:=fun r r' => r' = r * u∧0≤r∧r≤12 * B) (by
    rintro s t ⟨k,z,hk,rfl,rfl,hz⟩;unfold ZS.s0 ZK.s0;simp only;have hk12:k * B≤12 * B:=YL _ (by omega)
    by_cases hlt:k < f.Core.length
    ·left
     rw [ZC (show (k:Int) < f.Core.length by omega),ZC (show (k:Int) < f.Count by omega),cond_true,cond_true,at?_nat hlt,nz?_ok h0,ediv]
     simp only [Y0];have hlen:=hb.sets _ (YE hlt)
     generalize f.Core[k] = c at *
     have p1:c.length * u≤B * 200:=Y09 hlen (by omega)
     have p2:z * u≤(12 * B) * 200:=Y09 (by omega) (by omega)
     have p3:((c.length:Int) * (u:Int)) = ((c.length * u:Nat):Int):=by push_cast;rfl
     have p4:((z:Int) * (u:Int)) = ((z * u:Nat):Int):=by push_cast;rfl
     rw [Z1 (x:=(k:Int) + 1) (by omega),Z1 (x:=(z:Int) + (c.length:Int)) (by omega),Z1 (x:=(u:Int)) (by omega),Z1 (x:=(c.length:Int) * (u:Int)) (by omega),Z1 (by omega)]
     exact ⟨_,_,rfl,rfl,⟨k + 1,z + c.length,hlt,by push_cast;rfl,by push_cast;rw [Y0G],by rw [Yu];omega⟩,by simp only;omega⟩
    ·right
     rw [ZB (show ¬ (k:Int) < f.Core.length by omega),ZB (show ¬ (k:Int) < f.Count by omega),cond_false,cond_false]
     exact ⟨_,_,rfl,rfl,rfl,by omega,by omega⟩) (0,0) (0,0) ⟨0,0,YS _,rfl,by simp,by simp⟩
  subst hzz;rw [hz,hz'];simp only [Y0];have hP:0 < f.Period:=by
   have:f.Period ≠ 0:=fun h => h0 (hs.zero.2 h)
   omega
  rw [nz?_ok h0,nz?_ok (show f.Period ≠ 0 by omega),nz?_ok (show (m:Int) ≠ 0 by omega)]
  simp only [Y0];have hzu:z * (u:Int)≤12 * B * 200:=by
   have h1:z * (u:Int)≤(12 * B) * (u:Int):=YH z1 (by omega)
   have h2:(12 * (B:Int)) * (u:Int)≤(12 * B) * 200:=YU (by omega) (by omega)
   omega
  have hzu0:0≤z * (u:Int):=Yr z0 (by omega)
  have hmul:Zn f.Period (u:Int) = (f.Period * u,0):=by
   rw [Z4i (by unfold In64;omega) (by unfold In64;omega)]
   apply Z9f;have h1:0≤f.Period * (u:Int):=Yr hper.1 (by omega)
   have h2:f.Period * (u:Int)≤1099511627776 * u:=YH hper.2 (by omega)
   unfold In64;omega
  rw [ediv,Z1 (x:=(u:Int)) (by omega),Z1 (x:=z * (u:Int)) (by omega),hmul]
  by_cases hbig:z * (u:Int) > 60000
  ·rw [ZC hbig];exact ⟨_,_,rfl,rfl⟩
  ·rw [ZB hbig];simp only [cond_false,bne_self_eq_false,Y0R];have q0:0≤(1099511627776:Int) / f.Period:=Y0e (by omega) (by omega)
   have q1:(1099511627776:Int) / f.Period≤1099511627776:=Y0H _ (by omega)
   have hcmp:(u:Int) > w64 ((1099511627776:Int).tdiv f.Period) ↔ f.Period * (u:Int) > 1099511627776:=by
    rw [Y08 (by omega),Z1 (by omega)]
    show (1099511627776:Int) / f.Period < (u:Int) ↔ 1099511627776 < f.Period * (u:Int)
    rw [Int.ediv_lt_iff_lt_mul hP,Yt]
   by_cases hp:f.Period * (u:Int) > 1099511627776
   ·rw [ZC hp,ZC (hcmp.2 hp)];exact ⟨_,_,rfl,rfl⟩
   ·rw [ZB hp,ZB fun h => hp (hcmp.1 h)]
    simp only [cond_false];have hvm:(f.Count * (u:Int)).tdiv (m:Int) = v:=by rw [r2];exact Int.mul_tdiv_cancel _ (by omega)
    obtain ⟨y,y',s1,s2,s3⟩:=Z6d (p:=ZS.s1 f m ((v:Int),f.Count * u)) (q:=ZK.s1 f m (f.Count * u))
     (I:=fun s t => ∃ (k:Nat) (L:List (List Span)),k≤v∧L.length = k∧s = ((k:Int),L)∧t = ((k:Int),L)) (m:=fun s => v - s.1.toNat)
     (post:=fun r r' => (∃ L,r = .go (L,f.Period * u)∧r' = .go (L,f.Period * u,(v:Int)))∨(r = .ret 20∧r' = .ret (Form.mk 0 0 [] [],20))) (by
      rintro s t ⟨k,L,hk,hL,rfl,rfl⟩;unfold ZS.s1 ZK.s1;simp only;rw [hvm,ediv,Z1 (x:=(v:Int)) (by omega),Z1 (x:=(u:Int)) (by omega),hmul]
      by_cases hlt:k < v
      ·have hkm:(k:Int) * m≤12 * 200:=by
        have:k * m≤12 * 200:=Y09 (by omega) m2
        have e:(k:Int) * m = ((k * m:Nat):Int):=by push_cast;rfl
        rw [e];omega
       have hkm0:0≤(k:Int) * m:=Yr (by omega) (by omega)
       rw [ZC (show (k:Int) < v by omega),cond_true,cond_true,Z1 (x:=(k:Int) * m) (by omega)]
       obtain ⟨l,e,g1,g2,g3⟩:=raw_both hl hr hnl hb (a:=(k:Int) * m) (m:=m) (by omega) (by omega) (by omega) (by omega)
       rw [g1,g2];simp only [Y0]
       rcases g3 with rfl | ⟨rfl,rfl⟩
       ·left
        simp only [bne_self_eq_false,cond_false];rw [app?_ok (by
         have:=Z1F
         simp only [YI];omega)]
        simp only [Y0];rw [Z1 (x:=(k:Int) + 1) (by omega)]
        exact ⟨_,_,rfl,rfl,⟨k + 1,L ++ [l],hlt,by simp [hL],by push_cast;rfl,by push_cast;rfl⟩,by simp only;omega⟩
       ·right
        exact ⟨_,_,rfl,rfl,.inr ⟨rfl,rfl⟩⟩
      ·right
       obtain rfl:k = v:=by omega
       rw [ZB (by omega),cond_false,cond_false]
       have hw:w64 (f.Period * (u:Int)) = f.Period * u:=Z1 (by
        have h1:0≤f.Period * (u:Int):=Yr hper.1 (by omega)
        omega)
       rw [hw];exact ⟨_,_,rfl,rfl,.inl ⟨L,rfl,rfl⟩⟩) (0,[]) (0,[]) ⟨0,[],YS _,rfl,rfl,rfl⟩
    rw [s1,s2]
    rcases s3 with ⟨L,rfl,rfl⟩ | ⟨rfl,rfl⟩
    ·exact ⟨_,_,rfl,rfl⟩
    ·exact ⟨_,_,rfl,rfl⟩
end Go.Dn

namespace Go.Dn
open Go
theorem odds_both {f:Form} {B:Nat} (hl:Lim f) (hr:RightF f) (hnl:¬ Z22 f) (hb:BndB f B) {m:Nat} (m1:1≤m) (m2:m≤200) (hB:B≤8640) :
  ∃ r r',loopO (Zj.s0 f m) (0,[]) = some r∧loopO (ZK.s2 f m) (0,0,[]) = some r'∧((∃ O,r = .go O∧r' = .go O)∨(r = .ret (Form.mk 0 0 [] [],20)∧r' = .ret (Form.mk 0 0 [] [],20))):=by
 have hs:=hr.shape
 have hmB:m * B≤200 * 8640:=Y09 m2 hB
 have hodd:=hb.odd
 have hm0:(0:Int) < m:=by omega
 refine Z6d (p:=Zj.s0 f m) (q:=ZK.s2 f m)
  (I:=fun s t => ∃ (k:Nat) (O:List Granule) (last:Int),k≤f.Odd.length∧s = ((k:Int),O)∧t = (last,(k:Int),O)∧O.length≤k∧((k = 0∧O = [])∨(0 < k∧∃ a x,O = a ++ [x]∧x.Index = last)))
  (m:=fun s => f.Odd.length - s.1.toNat) (post:=fun r r' => (∃ O,r = .go O∧r' = .go O)∨(r = .ret (Form.mk 0 0 [] [],20)∧r' = .ret (Form.mk 0 0 [] [],20))) ?_ (0,[]) (0,0,[]) ⟨0,[],0,YS _,rfl,rfl,by simp,.inl ⟨rfl,rfl⟩⟩
 rintro s t ⟨k,O,last,hk,rfl,rfl,hlen,hO⟩
 unfold Zj.s0 ZK.s2
 simp only
 by_cases hlt:k < f.Odd.length
 ·have hmem:=YE hlt
  have hti:=(hs.odd _ hmem).2
  unfold Z3 at hti;rw [ZC (show (k:Int) < f.Odd.length by omega),cond_true,cond_true,at?_nat hlt]
  simp only [Y0];generalize f.Odd[k] = x at *
  rw [Z2v (by unfold In64;omega) (by unfold In64;omega),Z4I hm0,Z4Y (by unfold In64;omega) hm0 (by unfold In64;omega)]
  simp only [Y0];have q1:=Yw x.Index m
  have q2:=Ym x.Index (show (m:Int) ≠ 0 by omega)
  have q3:=Ys x.Index hm0
  have hcond:(bif (decide ((O.length:Int) > 0)) then (at? O (w64 ((O.length:Int) - 1))).bind fun x4 => some (x4.Index == x.Index / m) else some false) = some (decide ((k:Int) > 0) && (x.Index / m == last))∧((decide ((k:Int) > 0) && (x.Index / m == last)) = true→0 < k∧∃ a z,O = a ++ [z]∧z.Index = last):=by
   rcases hO with ⟨rfl,rfl⟩ | ⟨hk0,a,z,rfl,rfl⟩
   ·exact ⟨rfl,fun h => by simp at h⟩
   ·have ha:a.length≤1000:=by rw [YG] at hlen;omega
    rw [ZC (show (((a ++ [z]).length:Nat):Int) > 0 by simp),cond_true,last_at ha,ZC (show (k:Int) > 0 by omega),Bool.true_and]
    refine ⟨?_,fun _ => ⟨hk0,a,z,rfl,rfl⟩⟩
    simp only [Y0]
    congr 1
    rw [Bool.eq_iff_iff];simp only [beq_iff_eq];exact eq_comm
  rw [hcond.1];simp only [Y0];have hc2:=hcond.2
  generalize (decide ((k:Int) > 0) && (x.Index / m == last)) = b at *
  cases b with
  | true =>
   left
   simp only [cond_true,Y0,Jx.elim];rw [Z1 (x:=(k:Int) + 1) (by omega)]
   obtain ⟨h1,h2⟩:=hc2 rfl
   exact ⟨_,_,rfl,rfl,⟨k + 1,O,last,hlt,by push_cast;rfl,by push_cast;rfl,by omega,.inr ⟨by omega,h2⟩⟩,by simp only;omega⟩
  | false =>
   simp only [cond_false];have hqm:x.Index / m * m = x.Index - x.Index % m:=by rw [Yt];omega
   rw [Z1 (x:=x.Index / m * m) (by omega)]
   obtain ⟨l,e,g1,g2,g3⟩:=get_both hl hr hnl hb (a:=x.Index / m * m) (m:=m) (by omega) (by omega) (by omega) (by omega)
   rw [g1,g2];simp only [Y0]
   rcases g3 with rfl | ⟨rfl,rfl⟩
   ·left
    simp only [bne_self_eq_false,cond_false];rw [app?_ok (by
     have:=Z1F
     simp only [YI];omega)]
    simp only [Y0,Jx.elim];rw [Z1 (x:=(k:Int) + 1) (by omega)]
    exact ⟨_,_,rfl,rfl,⟨k + 1,O ++ [⟨x.Index / m,l⟩],x.Index / m,hlt,by push_cast;rfl,by push_cast;rfl,by simp only [YG,YI];omega,.inr ⟨by omega,O,_,rfl,rfl⟩⟩,by simp only;omega⟩
   ·right
    exact ⟨_,_,rfl,rfl,.inr ⟨rfl,rfl⟩⟩
 ·right
  rw [ZB (by omega),cond_false,cond_false]
  exact ⟨_,_,rfl,rfl,.inl ⟨O,rfl,rfl⟩⟩
theorem ZBl {f:Form} {B:Nat} (hl:Lim f) (hr:RightF f) (hnl:¬ Z22 f) (hb:BndB f B) {m:Int} (hm:m≤200∨m > 6000) (hB:B≤8640) :
  ∃ g e,Zj f m = some (g,e)∧ZK f m = some (g,e)∧Lim g:=by
 unfold Zj ZK
 by_cases hc:m < 1∨m > 6000
 ·have:(decide (m < 1) || decide (m > 6000)) = true:=by
   simp only [Yb,decide_eq_true_eq];exact hc
  rw [this];exact ⟨_,_,rfl,rfl,Z3R⟩
 obtain ⟨m,rfl⟩ : ∃ k:Nat,m = k:=⟨m.toNat,by omega⟩
 have m1:1≤m:=by omega
 have m2:m≤200:=by omega
 have hs:=hr.shape
 have hmB:m * B≤200 * 8640:=Y09 m2 hB
 rw [ZB (show ¬ (m:Int) < 1 by omega),ZB (show ¬ (m:Int) > 6000 by omega)]
 simp only [Y0o,cond_false]
 obtain ⟨p,e,p1,p2⟩:=plain_both hl hr hnl hb m1 m2 hB
 obtain ⟨p',e',p3,p4⟩:=plain_eq hl hs hb m1 m2 hB
 rw [p1] at p3
 obtain ⟨rfl,rfl⟩:=Prod.mk.inj (Option.some.inj p3)
 rw [p2,p1]
 simp only [Y0]
 by_cases he:e = 0
 ·have hP:=p4 he
  subst he;simp only [bne_self_eq_false,cond_false,if_true,Jx.elim];obtain ⟨r,r',o1,o2,o3⟩:=odds_both hl hr hnl hb m1 m2 hB
  rw [o1,o2]
  rcases o3 with ⟨O,rfl,rfl⟩ | ⟨rfl,rfl⟩
  ·simp only [Y0,Jx.elim];have hO:OddsG f m B f.Odd.length O:=by
    rcases odds_loop hl hs hb m1 m2 hB with ⟨O',q1,hO⟩ | ⟨q1,_⟩
    ·rw [o1] at q1;cases q1;exact hO
    ·rw [o1] at q1;cases q1
   have hper:=hs.per
   have h8:=hb.odd
   have l8:=hO.len
   have h12:=hP.few
   have hcv:In64 p.Count∧p.Count≤12∧In64 p.Period:=by
    by_cases h0:f.Count = 0
    ·rw [hP.zero h0];unfold In64;simp
    ·obtain ⟨u,v,_,_,u2,_,v2,e⟩:=hP.some (by have:=hs.count;omega)
     rw [e];have h1:0≤f.Period * (u:Int):=Yr hper.1 (by omega)
     have h2:f.Period * (u:Int)≤1099511627776 * u:=YH hper.2 (by omega)
     unfold In64;simp only;omega
   have lim:Lim (Form.mk p.Period p.Count p.Core O):=by
    have r:=Z0g
    have s64:∀ {l:List Span},Z15 l→Sp64 l:=fun {l} h s hs' => ⟨Z0M (h s hs').1,Z0M (h s hs').2⟩
    refine ⟨?_,fun l hl' => ⟨?_,s64 (hP.sets l hl').2⟩,?_,fun g hg => ⟨?_,?_,s64 (hO.tick g hg).2.2⟩,hcv.1,hcv.2.2⟩
    ·show p.Core.length * 24≤reachBytes
     omega
    ·have:=(hP.sets l hl').1
     unfold Len;omega
    ·show O.length * 32≤reachBytes
     omega
    ·obtain ⟨x,hx,e⟩:=hO.of g hg
     have hx':=(hs.odd x (Yo hx)).2
     have h4:=quot_tick (n:=x.Index) (p:=(m:Int)) (by omega) hx'
     rw [e];exact Z0M h4
    ·have:=(hO.tick g hg).2.1
     unfold Len;omega
   obtain ⟨g,e,g1,g2,g3⟩:=Z61 lim fun hr => Z8m lim hr hcv.2.1 (show O.length≤8 by omega)
   rw [g1,g2];exact ⟨g,e,rfl,rfl,g3⟩
  ·exact ⟨_,_,rfl,rfl,Z3R⟩
 ·have:(e != 0) = true:=by simpa using he
  rw [this,if_neg he];exact ⟨_,_,rfl,rfl,Z3R⟩
theorem ZAo (f:Form) (m n:Int) (hf:f.ok) (hm:okI .i64 m) (hn:okI .i64 n):Z1q f m n = some true:=by
 have hl:=Form.lim hf
 have hm':In64 m:=hm
 have hn':In64 n:=hn
 unfold Z1q
 obtain ⟨b,e1,i1⟩:=right13_eq hl
 rw [e1]
 simp only [Y0]
 cases b with
 | false => rfl
 | true =>
 obtain ⟨sf,rf⟩:=i1.1 rfl
 have hb:=sf.bnd
 have hnl:=hb.short
 have hs:=rf.shape
 have same:∀ {x:Form},Lim x→ZA x x = some true:=fun {x} hx => by
  obtain ⟨r,r1,r2⟩:=alikeForms_eq (a:=x) (b:=x) hx
  rw [r1,r2.2 rfl]
 simp only [YQ,cond_false]
 rw [anewForm_eq hl]
 simp only [Y0]
 have h1:(bif ((decide (m≤200)) || (decide (m > 6000))) then
    (Zj f m).bind fun x3 =>
    (ZK f m).bind fun x4 =>
    (
     (bif (x3.2 != x4.2) then
      some true
     else
      (ZA x3.1 x4.1).bind fun x5 =>
      some (!x5))).bind fun (y2:Bool) =>
    (bif y2 then
     some (Jx.ret false)
    else
     some (.go ()))
   else
    some (.go ())) = some (Jx.go ()):=by
  by_cases hc:m≤200∨m > 6000
  ·have:((decide (m≤200)) || (decide (m > 6000))) = true:=by simp only [Yb,decide_eq_true_eq];exact hc
   rw [this,cond_true];obtain ⟨g,e,g1,g2,g3⟩:=ZBl hl rf hnl hb.b hc (by omega)
   rw [g1,g2];simp only [Y0,bne_self_eq_false,cond_false,same g3,YQ]
  ·rw [ZB (show ¬ m≤200 by omega),ZB (show ¬ m > 6000 by omega)]
   rfl
 rw [h1]
 simp only [Y0,Jx.elim]
 obtain ⟨g,e,g1,g2,g3⟩:=ZBf hl hs hb hm'
 rw [g1,g2]
 simp only [Y0,bne_self_eq_false,cond_false,same g3,YQ]
 have h2:(bif ((((decide (m > n)) || (decide (m < (-1099511627776)))) || (decide (n > 1099511627776))) || (decide ((w64 (n - m))≤2000))) then
     (ZW f m n).bind fun x9 =>
     (Ze f m n).bind fun x10 =>
     (
      (bif (x9.2 != x10.2) then
       some true
      else
       (ZA x9.1 x10.1).bind fun x11 =>
       some (!x11))).bind fun (y5:Bool) =>
     (bif y5 then
      some (Jx.ret false)
     else
      some (.go ()))
    else
     some (.go ())) = some (Jx.go ()):=by
  cases hc:((((decide (m > n)) || (decide (m < (-1099511627776)))) || (decide (n > 1099511627776))) || (decide ((w64 (n - m))≤2000))) with
  | false => rfl
  | true =>
   rw [cond_true];obtain ⟨g,e,g1,g2,g3⟩:=ZBM hl hs hb hm' hn' (by
    simp only [Yb,decide_eq_true_eq] at hc
    rcases hc with ((h | h) | h) | h
    ·exact .inl (.inl h)
    ·exact .inl (.inr h)
    ·exact .inr (.inl h)
    ·exact .inr (.inr h))
   rw [g1,g2];simp only [Y0,bne_self_eq_false,cond_false,same g3,YQ]
 rw [h2]
 simp only [Y0,Jx.elim]
 obtain ⟨l,e,r1,r2,r3,_⟩:=Z72 hl hs hnl hn'
 obtain ⟨r,a1,a2⟩:=alike_eq (a:=l) (b:=l) r3
 rw [r1,r2]
 simp only [Y0,beq_self_eq_true,cond_true,a1,a2.2 rfl,same hl]
 rfl
end Go.Dn
