/- Part 6 of what the row stands on. -/
import Derived.Test.YtobglidemkpmaaaGreatM5
set_option linter.unusedVariables false
set_option linter.unusedSimpArgs false
namespace Go.Dn
open Go
theorem size_odd_eq {g:Form} {sp:List size_spot} (hl:Lim g) (hs:Shape g) (i:Int):∃ n,Z2b ⟨g,sp⟩ i = some n∧(0≤n ↔ Z0B g i):=by
 obtain ⟨p,h1,h2,h3⟩:=ZE3 (t:=i) hl.odd hs.inc
 have e:Z1 g.Odd i (fun z0 z1 => some (Z37 z0 z1)) = some ((p:Int),decide (∃ x,g.Odd[p]? = some x∧x.Index = i)):=h3
 unfold Z2b
 simp only
 rw [e]
 simp only [Y0]
 by_cases hx:∃ x,g.Odd[p]? = some x∧x.Index = i
 ·rw [ZP hx];refine ⟨(p:Int),rfl,fun _ => ?_,fun _ => by omega⟩
  obtain ⟨x,e1,e2⟩:=hx
  exact ⟨x,Y7 e1,e2⟩
 ·rw [ZQ hx];refine ⟨-1,rfl,fun h => by omega,?_⟩
  rintro ⟨x,hx1,hx2⟩;obtain ⟨k,hk⟩:=YC hx1
  exfalso
  have hkp:=h2 k x hk
  by_cases hkk:k = p
  ·subst hkk;exact hx ⟨x,hk,hx2⟩
  ·have:p < k:=by omega
   have hlt:=(List.getElem?_eq_some_iff.1 hk).1
   have hp:g.Odd[p]? = some (g.Odd[p]'(by omega)):=Y2 (by omega)
   have q1:=h2 p _ hp
   have q2:=hs.inc p k _ x this hp hk
   omega
theorem has_eq {g:Form} {sp:List size_spot} (hl:Lim g) (hs:Shape g) (h0:0 < g.Count) {i:Int} (hi:In64 i):Z38 ⟨g,sp⟩ i = some (decide (cs g i ≠ [])):=by
 unfold Z38
 simp only
 rw [Z3D hi hl.count,Z6e h0]
 simp only [Y0]
 rw [(Z2g hs (by omega) i).1]
 simp only [Y0,Y5,decide_eq_decide]
 unfold cs
 rw [ne_eq,List.map_eq_nil_iff]
 constructor
 ·intro h hn;rw [hn] at h;simp at h
 ·intro h;have:=List.length_pos_iff.2 h;omega
theorem Z35 {g:Form} (h0:0 < g.Count) {i:Int} (h:¬ Z0B g i):ZJ g i = cs g i:=by rw [Z6A h,Z61 h0]
def byU (up:Bool):Int:=if up then 1 else -1
def sgU (up:Bool):Int:=if up then -1 else 1
theorem sg_w (up:Bool) {x:Int} (h : -4611686018427387904≤x∧x≤4611686018427387904):w64 (w64 (0 - byU up) * x) = sgU up * x:=by
 cases up
 ·show w64 (w64 (0 - (-1)) * x) = 1 * x
  rw [show w64 (0 - (-1)) = 1 from rfl,Z6 (by omega)]
 ·show w64 (w64 (0 - 1) * x) = -1 * x
  rw [show w64 (0 - 1) = -1 from rfl,Z6 (by omega)]
open Classical in
theorem walk_eq {g:Form} {sp:List size_spot} (h:Fit g) (h0:0 < g.Count) (hb:¬ Bare g) (up:Bool) {i0:Int} (hi : -211106232532992≤i0∧i0≤211106232532992) :
  ∃ i,loopO (Z2.s0 ⟨g,sp⟩ (byU up)) i0 = some i∧¬ Z0B g i∧cs g i ≠ []∧(if up then i0≤i else i≤i0)∧-211106232533992≤i∧i≤211106232533992 ∧
   ∀ k,(if up then i0≤k∧k < i else i < k∧k≤i0)→Z0B g k∨cs g k = []:=by
 have hs:=h.shape
 have hcnt:=hs.count
 have hfew:=h.few
 obtain ⟨j,j1,j2,j3,j4⟩:=free_core hs hb h0 h.odds (if up then i0 else i0 - g.Count * 9 + 1)
 rw [Z35 h0 j3] at j4
 have hj:if up then i0≤j∧j < i0 + 108 else j≤i0∧i0 < j + 108:=by
  cases up
  ·simp only [Y6,if_false] at j1 j2 ⊢;omega
  ·simp only [if_true] at j1 j2 ⊢;omega
 obtain ⟨r,q1,q2⟩:=Z0Q (step:=Z2.s0 ⟨g,sp⟩ (byU up))
  (fun i => (if up then i0≤i∧i≤j else j≤i∧i≤i0)∧∀ k,(if up then i0≤k∧k < i else i < k∧k≤i0)→Z0B g k∨cs g k = [])
  (fun i => (if up then j - i else i - j).toNat)
  (fun i => (if up then i0≤i∧i≤j else j≤i∧i≤i0)∧¬ Z0B g i∧cs g i ≠ []∧∀ k,(if up then i0≤k∧k < i else i < k∧k≤i0)→Z0B g k∨cs g k = []) (by
   rintro i ⟨a1,a2⟩;have hi64 : -211106232533992≤i∧i≤211106232533992:=by
    cases up
    ·simp only [Y6,if_false] at a1 hj;omega
    ·simp only [if_true] at a1 hj;omega
   unfold Z2.s0;obtain ⟨n,n1,n2⟩:=size_odd_eq (sp:=sp) h.lim hs i
   rw [n1];simp only [Y0];rw [has_eq h.lim hs h0 (by unfold In64;omega)]
   simp only [Y0];have hc:(bif decide (n ≥ 0) then some true else some (!decide (cs g i ≠ []))) = some (decide (Z0B g i∨cs g i = [])):=by
    by_cases ho:Z0B g i
    ·rw [ZP (n2.2 ho),cond_true,ZP (.inl ho)]
    ·rw [ZQ (p:=n ≥ 0) (fun h => ho (n2.1 h)),cond_false]
     by_cases he:cs g i = []
     ·rw [ZP (p:=Z0B g i∨cs g i = []) (.inr he),ZQ (p:=cs g i ≠ []) (fun h => h he)];rfl
     ·rw [ZQ (p:=Z0B g i∨cs g i = []) (fun h => h.elim ho he),ZP (p:=cs g i ≠ []) he];rfl
   rw [hc];simp only [Y0]
   by_cases hk:Z0B g i∨cs g i = []
   ·left
    rw [ZP hk,cond_true];have hij:i ≠ j:=by
     rintro rfl;exact hk.elim j3 j4
    have hw:w64 (i + byU up) = i + byU up:=Z6 (by unfold byU;cases up <;> simp <;> omega)
    rw [hw];refine ⟨_,rfl,⟨?_,?_⟩,?_⟩
    ·unfold byU;cases up
     ·simp only [Y6,if_false] at a1 ⊢;omega
     ·simp only [if_true] at a1 ⊢;omega
    ·intro k hkk
     by_cases hki:k = i
     ·subst hki;exact hk
     ·apply a2;unfold byU at hkk;cases up
      ·simp only [Y6,if_false] at hkk ⊢;omega
      ·simp only [if_true] at hkk ⊢;omega
    ·unfold byU;cases up
     ·simp only [Y6,if_false] at a1 ⊢;omega
     ·simp only [if_true] at a1 ⊢;omega
   ·right
    rw [ZQ hk,cond_false];exact ⟨_,rfl,a1,fun ho => hk (.inl ho),fun he => hk (.inr he),a2⟩) i0 ⟨by
     cases up
     ·simp only [Y6,if_false] at hj ⊢;omega
     ·simp only [if_true] at hj ⊢;omega,fun k hk => by
     cases up
     ·simp only [Y6,if_false] at hk;omega
     ·simp only [if_true] at hk;omega⟩
 refine ⟨r,q1,q2.2.1,q2.2.2.1,?_,?_,?_,q2.2.2.2⟩ <;> have:=q2.1 <;> cases up <;> simp only [Y6,if_false,if_true] at this hj ⊢ <;> omega
def AtP (g:Form) (up:Bool) (t i:Int):Prop:=ZJ g i ≠ []∧(if up then t≤lstT (ZJ g i) else fstT (ZJ g i)≤t)
theorem hull_cond {l:List Span} {up:Bool} {t:Int} (hl:Len l):∃ x:Span × Bool,Z1I l = some x∧(x.2 && ((up && (decide (x.1.To ≥ t))) || ((!up) && (decide (x.1.From≤t))))) = decide (l ≠ []∧(if up then t≤lstT l else fstT l≤t)):=by
 refine ⟨_,Z9U hl,?_⟩
 by_cases h:l = []
 ·rw [if_pos h];simp [h]
 ·rw [if_neg h];cases up <;> simp [h]
open Classical in
theorem reach_loop {g:Form} {sp:List size_spot} (h:Fit g) (up:Bool) (t:Int) {b:Int × Bool} {S:Int→Prop} (hB:Best S b) :
  ∃ r,loopO (Z2.s2 ⟨g,sp⟩ t up (byU up)) (0,b.1,b.2) = some r∧Best (fun m => S m∨∃ i,Z0B g i∧AtP g up t i∧m = sgU up * i) r:=by
 have hs:=h.shape
 have hl:=h.lim
 have hodd:=h.odds
 obtain ⟨r,q1,q2⟩:=Z0Q (step:=Z2.s2 ⟨g,sp⟩ t up (byU up))
  (fun s => ∃ (k:Nat) (c:Int × Bool),k≤g.Odd.length∧s = ((k:Int),c.1,c.2)∧Best (fun m => S m∨∃ x ∈ g.Odd.take k,AtP g up t x.Index∧m = sgU up * x.Index) c)
  (fun s => g.Odd.length - s.1.toNat)
  (fun r => Best (fun m => S m∨∃ i,Z0B g i∧AtP g up t i∧m = sgU up * i) r) (by
   rintro s ⟨k,c,hk,rfl,hc⟩;unfold Z2.s2;simp only
   by_cases hlt:k < g.Odd.length
   ·left
    have hm:=YF hlt
    have htk:g.Odd.take (k + 1) = g.Odd.take k ++ [g.Odd[k]]:=(Y05 hlt).symm
    rw [ZP (show (k:Int) < g.Odd.length by omega),cond_true,at?_nat hlt]
    simp only [Y0];obtain ⟨x,x1,x2⟩:=hull_cond (l:=g.Odd[k].Ticks) (up:=up) (t:=t) (hl.ticks _ hm).2.1
    rw [x1];simp only [Y0];rw [x2];have hset:ZJ g g.Odd[k].Index = g.Odd[k].Ticks:=Z1Y hs.inc hm
    have hat:(g.Odd[k].Ticks ≠ []∧(if up then t≤lstT g.Odd[k].Ticks else fstT g.Odd[k].Ticks≤t)) ↔ AtP g up t g.Odd[k].Index:=by unfold AtP;rw [hset]
    have ht:=(hs.odd _ hm).2
    unfold ZD at ht
    by_cases hcnd:AtP g up t g.Odd[k].Index
    ·rw [ZP (hat.2 hcnd),cond_true];have hw:w64 (w64 (0 - byU up) * g.Odd[k].Index) = sgU up * g.Odd[k].Index:=sg_w up (by omega)
     rw [hw,Z7n];simp only [Y0];rw [Z6 (by omega)]
     refine ⟨_,rfl,⟨k + 1,putB c (sgU up * g.Odd[k].Index),hlt,by push_cast;rfl,?_⟩,by simp only;omega⟩
     refine hc.put fun m => ?_
     rw [htk]
     constructor
     ·rintro (h1 | ⟨y,hy,h1,h2⟩)
      ·exact .inl (.inl h1)
      ·rcases List.mem_append.1 hy with h3 | h3
       ·exact .inl (.inr ⟨y,h3,h1,h2⟩)
       ·rw [YO] at h3;subst h3;exact .inr h2
     ·rintro ((h1 | ⟨y,hy,h1,h2⟩) | h1)
      ·exact .inl h1
      ·exact .inr ⟨y,Yf _ hy,h1,h2⟩
      ·exact .inr ⟨_,Yi _ (List.mem_singleton.2 rfl),hcnd,h1⟩
    ·rw [ZQ (fun h => hcnd (hat.1 h)),cond_false]
     simp only [Y0];rw [Z6 (by omega)]
     refine ⟨_,rfl,⟨k + 1,c,hlt,by push_cast;rfl,?_⟩,by simp only;omega⟩
     refine hc.congr fun m => ?_
     rw [htk]
     constructor
     ·rintro (h1 | ⟨y,hy,h1,h2⟩)
      ·exact .inl h1
      ·rcases List.mem_append.1 hy with h3 | h3
       ·exact .inr ⟨y,h3,h1,h2⟩
       ·rw [YO] at h3;subst h3;exact absurd h1 hcnd
     ·rintro (h1 | ⟨y,hy,h1,h2⟩)
      ·exact .inl h1
      ·exact .inr ⟨y,Yf _ hy,h1,h2⟩
   ·right
    obtain rfl:k = g.Odd.length:=by omega
    rw [ZQ (by omega),cond_false]
    rw [Yz] at hc;refine ⟨_,rfl,hc.congr fun m => ?_⟩
    constructor
    ·rintro (h1 | ⟨i,⟨x,hx,rfl⟩,h1,h2⟩)
     ·exact .inl h1
     ·exact .inr ⟨x,hx,h1,h2⟩
    ·rintro (h1 | ⟨x,hx,h1,h2⟩)
     ·exact .inl h1
     ·exact .inr ⟨_,⟨x,hx,rfl⟩,h1,h2⟩) (0,b.1,b.2) ⟨0,b,YM _,rfl,hB.congr fun m => by simp⟩
 exact ⟨r,q1,q2⟩
theorem spots_ne {g:Form} (hs:Shape g) (h0:0 < g.Count) (hb:¬ Bare g):Z2F g ≠ []:=by
 obtain ⟨i,i1,i2,i3⟩:=cs_some hs hb h0 0
 obtain ⟨s,s1,s2⟩:=(spots_ok hs).all i i1 (by omega) i3
 exact Y0v s1
theorem sg_sg (up:Bool) (n:Int):sgU up * (sgU up * n) = n:=by unfold sgU;cases up <;> simp
theorem ZDj {g:Form} (h:Fit g) (hb:0 < g.Count→¬ Bare g) {t:Int} (ht:BigT t) (up:Bool) :
  ∃ n b,Z2 ⟨g,Z2F g⟩ t up = some (n,b)∧Best (fun m => ∃ i,AtP g up t i∧m = sgU up * i) (sgU up * n,b)∧-300000000000000≤n∧n≤300000000000000:=by
 have hs:=h.shape
 have hby:(bif up then some (1:Int) else some (-1)) = some (byU up):=by unfold byU;cases up <;> rfl
 unfold Z2
 rw [hby]
 simp only [Y0]
 have key:∃ b:Int × Bool,(bif (decide (g.Count > 0)) then
   (Z0S ⟨g,Z2F g⟩ t up).bind fun x1 =>
   (loopO (Z2.s0 ⟨g,Z2F g⟩ (byU up)) x1).bind fun (y3:Int) =>
   (
    (loopO (Z2.s1) (([(w64 ((w64 (0 - (byU up))) * y3))].length:Int),0,[(w64 ((w64 (0 - (byU up))) * y3))],0,false)).bind fun (y6:(List Int) × Int × Bool) =>
    some (y6.1,y6.2.1,y6.2.2)).bind fun (y5:(List Int) × Int × Bool) =>
   some (y5.2.1,y5.2.2)
  else
   some (0,false)) = some b∧Best (fun m => ∃ i,¬ Z0B g i∧AtP g up t i∧m = sgU up * i) b∧(b.2 = true→-211106232533992≤b.1∧b.1≤211106232533992):=by
  by_cases h0:0 < g.Count
  ·rw [ZP h0,cond_true];have hsp:=spots_ok hs
   have hn:=spots_ne hs h0 (hb h0)
   have hln:(Z2F g).length≤12:=Yc (Z8b g _) h.few
   have hcore:∃ i0,Z0S ⟨g,Z2F g⟩ t up = some i0∧(if up then FirstC g t i0 else LastC g t i0)∧-211106232532992≤i0∧i0≤211106232532992:=by
    cases up
    ·obtain ⟨i,e1,e2,e3⟩:=ZBE h h0 hsp hn hln ht
     exact ⟨i,e1,by simpa using e2,e3⟩
    ·obtain ⟨i,e1,e2,e3⟩:=ZDM h h0 hsp hn hln ht
     exact ⟨i,e1,by simpa using e2,e3⟩
   obtain ⟨i0,c1,c2,c3⟩:=hcore
   obtain ⟨i,w1,w2,w3,w4,w5,w6,w7⟩:=walk_eq (sp:=Z2F g) h h0 (hb h0) up c3
   rw [c1];simp only [Y0];rw [w1];simp only [Y0];have hw:w64 (w64 (0 - byU up) * i) = sgU up * i:=sg_w up (by omega)
   rw [hw,Z8E];simp only [Y0];refine ⟨_,rfl,?_,?_⟩
   ·show Best _ (sgU up * i,true)
    refine ⟨fun _ => ⟨⟨i,w2,?_,rfl⟩,?_⟩,fun h => by cases h⟩
    ·unfold AtP;rw [Z35 h0 w2];refine ⟨w3,?_⟩;cases up
     ·simp only [Y6,if_false] at c2 w4 ⊢
      by_cases hii:i = i0
      ·rw [hii];exact c2.2.1
      ·have o1:=Z6b hs h.turns h0 (show i < i0 by omega) w3 c2.1
       obtain ⟨j,q,j0,j1,jk,ej⟩:=Z52 h0 i
       have hjn:cs g j ≠ []:=fun hh => w3 (by rw [ej,hh];rfl)
       have o2:=Z1m (Z32 hs h0 j0 j1) hjn
       have o3:=Z0d (q * g.Period) hjn
       rw [← ej] at o3;have:=c2.2.1
       omega
     ·simp only [if_true] at c2 w4 ⊢
      by_cases hii:i = i0
      ·rw [hii];exact c2.2.1
      ·have o1:=Z6b hs h.turns h0 (show i0 < i by omega) c2.1 w3
       obtain ⟨j,q,j0,j1,jk,ej⟩:=Z52 h0 i
       have hjn:cs g j ≠ []:=fun hh => w3 (by rw [ej,hh];rfl)
       have o2:=Z1m (Z32 hs h0 j0 j1) hjn
       have o3:=Z0d (q * g.Period) hjn
       rw [← ej] at o3;have:=c2.2.1
       omega
    ·rintro m ⟨k,k1,k2,rfl⟩;unfold AtP at k2;rw [Z35 h0 k1] at k2;cases up
     ·simp only [Y6,if_false,sgU] at c2 w7 k2 ⊢
      by_cases hki:k≤i
      ·omega
      ·exfalso
       by_cases hk0:k≤i0
       ·rcases w7 k ⟨by omega,hk0⟩ with h1 | h1
        ·exact k1 h1
        ·exact k2.1 h1
       ·have:=c2.2.2 k (by omega) k2.1
        omega
     ·simp only [if_true,sgU] at c2 w7 k2 ⊢
      by_cases hki:i≤k
      ·omega
      ·exfalso
       by_cases hk0:i0≤k
       ·rcases w7 k ⟨hk0,by omega⟩ with h1 | h1
        ·exact k1 h1
        ·exact k2.1 h1
       ·have:=c2.2.2 k (by omega) k2.1
        omega
   ·intro _
    show -211106232533992≤sgU up * i∧sgU up * i≤211106232533992
    unfold sgU;cases up <;> simp only [Y6,if_false,if_true] <;> omega
  ·rw [ZQ h0,cond_false];refine ⟨_,rfl,Best.none ?_,fun h => by cases h⟩
   rintro n ⟨i,i1,i2,rfl⟩;exact i2.1 (Z1r i1 (by have:=hs.count;omega))
 obtain ⟨b,k1,k2,k3⟩:=key
 rw [k1]
 simp only [Y0]
 obtain ⟨r,r1,r2⟩:=reach_loop (sp:=Z2F g) h up t k2
 rw [r1]
 simp only [Y0]
 have hB:Best (fun m => ∃ i,AtP g up t i∧m = sgU up * i) r:=r2.congr fun m => by
  constructor
  ·rintro ⟨i,i1,i2⟩
   by_cases ho:Z0B g i
   ·exact .inr ⟨i,ho,i1,i2⟩
   ·exact .inl ⟨i,ho,i1,i2⟩
  ·rintro (⟨i,i1,i2,i3⟩ | ⟨i,i1,i2,i3⟩)
   ·exact ⟨i,i2,i3⟩
   ·exact ⟨i,i2,i3⟩
 have hrb : -211106232533992≤r.1∧r.1≤211106232533992:=by
  cases hr:r.2 with
  | false => have:=(r2.no hr).1;omega
  | true =>
   rcases (r2.yes hr).1 with h1 | ⟨i,⟨x,hx,rfl⟩,i2,i3⟩
   ·cases hbb:b.2 with
    | false => exact absurd h1 ((k2.no hbb).2 _)
    | true =>
     have e1:=(k2.yes hbb).2 _ h1
     have e2:=(r2.yes hr).2 _ (.inl (k2.yes hbb).1)
     have:=k3 hbb
     omega
   ·have:=(hs.odd x hx).2
    unfold ZD at this;rw [i3];unfold sgU;cases up <;> simp only [Y6,if_false,if_true] <;> omega
 have hw:w64 (w64 (0 - byU up) * r.1) = sgU up * r.1:=sg_w up (by omega)
 rw [hw]
 refine ⟨sgU up * r.1,r.2,rfl,?_,?_⟩
 ·rw [sg_sg];exact hB
 ·unfold sgU;cases up <;> simp only [Y6,if_false,if_true] <;> omega
end Go.Dn

namespace Go.Dn
open Go
def CoreP (g:Form) (up:Bool) (d i j:Int):Prop:=cs g i ≠ []∧cs g j ≠ []∧(if up then d≤lstT (cs g j) - fstT (cs g i) else fstT (cs g j) - lstT (cs g i)≤d)
def Z1C (g:Form) (up:Bool) (d i j:Int):Prop:=ZJ g i ≠ []∧ZJ g j ≠ []∧(if up then d≤lstT (ZJ g j) - fstT (ZJ g i) else fstT (ZJ g j) - lstT (ZJ g i)≤d)
def BigI (n:Int):Prop:=-600000000000000≤n∧n≤600000000000000
theorem putB_big {b:Int × Bool} {n:Int} (hb:BigI b.1) (hn:BigI n):BigI (putB b n).1:=by
 unfold putB;split
 ·exact hn
 ·exact hb
theorem sg_big {up:Bool} {n:Int} (h:BigI n):BigI (sgU up * n):=by unfold BigI sgU at *;cases up <;> simp <;> omega
theorem Best.join {S W S':Int→Prop} {b:Int × Bool} {m0:Int} (h:Best S b) (hm:W m0) (hall:∀ n,W n→n≤m0) (hS:∀ m,S' m ↔ S m∨W m):Best S' (putB b m0):=by
 have h1:=h.put (S':=fun m => S m∨m = m0) (n:=m0) (fun m => Iff.rfl)
 refine ⟨fun hb => ⟨(hS _).2 ?_,fun n hn => ?_⟩,fun hb => ⟨(h1.no hb).1,fun n hn => ?_⟩⟩
 ·rcases (h1.yes hb).1 with h2 | h2
  ·exact .inl h2
  ·rw [h2];exact .inr hm
 ·rcases (hS n).1 hn with h2 | h2
  ·exact (h1.yes hb).2 n (.inl h2)
  ·exact Int.le_trans (hall n h2) ((h1.yes hb).2 m0 (.inr rfl))
 ·exact (h1.no hb).2 m0 (.inr rfl)
theorem sgw2 (up:Bool) {x:Int} (h:BigI x):w64 (sgU up * w64 x) = sgU up * x:=by
 unfold BigI at h
 rw [Z6 (x:=x) (by omega),Z6]
 unfold sgU;cases up <;> simp <;> omega
theorem sg_le {up:Bool} {i n x:Int} (h:sgU up * i≤sgU up * n):sgU up * (i - x)≤sgU up * (n - x):=by rw [Int.mul_sub,Int.mul_sub];omega
theorem far_spots {g:Form} (h:Fit g) (hb:0 < g.Count→¬ Bare g) {d:Int} (hd:ZD d) (up:Bool) :
  ∃ r,loopO (ZT.s0 d up ⟨g,Z2F g⟩ (sgU up)) (0,0,false) = some r∧BigI r.1∧Best (fun m => ∃ i j,0≤i∧i < g.Count∧CoreP g up d i j∧m = sgU up * (j - i)) r:=by
 have hs:=h.shape
 have hcnt:=hs.count
 have hfew:=h.few
 have hsp:=spots_ok hs
 have hln:(Z2F g).length≤12:=Yc (Z8b g _) h.few
 generalize Z2F g = sp at *
 obtain ⟨r,q1,q2⟩:=Z0Q (step:=ZT.s0 d up ⟨g,sp⟩ (sgU up))
  (fun s => ∃ (k:Nat) (c:Int × Bool),k≤sp.length∧s = ((k:Int),c.1,c.2)∧BigI c.1∧Best (fun m => ∃ x ∈ sp.take k,∃ j,CoreP g up d x.index j∧m = sgU up * (j - x.index)) c)
  (fun s => sp.length - s.1.toNat)
  (fun r => BigI r.1∧Best (fun m => ∃ i j,0≤i∧i < g.Count∧CoreP g up d i j∧m = sgU up * (j - i)) r) (by
   rintro s ⟨k,c,hk,rfl,hcb,hc⟩;unfold ZT.s0;simp only
   by_cases hlt:k < sp.length
   ·left
    have hm:=YF hlt
    have htk:sp.take (k + 1) = sp.take k ++ [sp[k]]:=(Y05 hlt).symm
    obtain ⟨b1,b2,b3,b4,b5⟩:=hsp.mem _ hm
    have h0:0 < g.Count:=by omega
    have rx:=Z5e (Z32 hs h0 b1 b2) b3
    rw [← b4,← b5] at rx;unfold ZD at rx hd;rw [ZP (show (k:Int) < sp.length by omega),cond_true,at?_nat hlt]
    simp only [Y0];have hy:(bif up then some sp[k].place.first else some sp[k].place.last) = some (if up then sp[k].place.first else sp[k].place.last):=by cases up <;> rfl
    rw [hy];simp only [Y0];have hyb : -1099511627776≤(if up then sp[k].place.first else sp[k].place.last)∧(if up then sp[k].place.first else sp[k].place.last)≤1099511627776:=by split <;> omega
    have hye:(if up then sp[k].place.first else sp[k].place.last) = if up then fstT (cs g sp[k].index) else lstT (cs g sp[k].index):=by rw [b4,b5]
    generalize (if up then sp[k].place.first else sp[k].place.last) = y at *
    rw [Z6 (x:=y + d) (by omega)]
    have hn:sp ≠ []:=Y0v hm
    have hcore:∃ i0,Z0S ⟨g,sp⟩ (y + d) up = some i0∧(if up then FirstC g (y + d) i0 else LastC g (y + d) i0)∧-211106232532992≤i0∧i0≤211106232532992:=by
     cases up
     ·obtain ⟨i,e1,e2,e3⟩:=ZBE h h0 hsp hn hln (t:=y + d) (by unfold BigT;omega)
      exact ⟨i,e1,by simpa using e2,e3⟩
     ·obtain ⟨i,e1,e2,e3⟩:=ZDM h h0 hsp hn hln (t:=y + d) (by unfold BigT;omega)
      exact ⟨i,e1,by simpa using e2,e3⟩
    obtain ⟨i0,c1,c2,c3⟩:=hcore
    rw [c1];simp only [Y0];have hbi:BigI (i0 - sp[k].index):=by unfold BigI;omega
    rw [sgw2 up hbi,ZCd];simp only [Y0];rw [Z6 (by omega)]
    refine ⟨_,rfl,⟨k + 1,putB c (sgU up * (i0 - sp[k].index)),hlt,by push_cast;rfl,putB_big hcb (sg_big hbi),?_⟩,by simp only;omega⟩
    refine hc.join (W:=fun m => ∃ j,CoreP g up d sp[k].index j∧m = sgU up * (j - sp[k].index)) ?_ ?_ ?_
    ·refine ⟨i0,⟨b3,?_⟩,rfl⟩;cases up
     ·simp only [Y6,if_false] at c2 hye ⊢;exact ⟨c2.1,by have:=c2.2.1;omega⟩
     ·simp only [if_true] at c2 hye ⊢;exact ⟨c2.1,by have:=c2.2.1;omega⟩
    ·rintro n ⟨j,j1,rfl⟩;apply sg_le;cases up
     ·simp only [Y6,if_false,sgU] at c2 hye ⊢
      by_cases hji:j≤i0
      ·omega
      ·have:=c2.2.2 j (by omega) j1.2.1
       have j2:=j1.2.2
       simp only [Y6,if_false] at j2;omega
     ·simp only [if_true,sgU] at c2 hye ⊢
      by_cases hji:i0≤j
      ·omega
      ·have:=c2.2.2 j (by omega) j1.2.1
       have j2:=j1.2.2
       simp only [if_true] at j2;omega
    ·intro m;rw [htk]
     constructor
     ·rintro ⟨x,hx,j,j1,j2⟩
      rcases List.mem_append.1 hx with h3 | h3
      ·exact .inl ⟨x,h3,j,j1,j2⟩
      ·rw [YO] at h3;subst h3;exact .inr ⟨j,j1,j2⟩
     ·rintro (⟨x,hx,j,j1,j2⟩ | ⟨j,j1,j2⟩)
      ·exact ⟨x,Yf _ hx,j,j1,j2⟩
      ·exact ⟨_,Yi _ (List.mem_singleton.2 rfl),j,j1,j2⟩
   ·right
    obtain rfl:k = sp.length:=by omega
    rw [ZQ (by omega),cond_false]
    rw [Yz] at hc;refine ⟨_,rfl,hcb,hc.congr fun m => ?_⟩
    constructor
    ·rintro ⟨i,j,i0,i1,hp,e⟩;obtain ⟨x,hx,rfl⟩:=hsp.all i i0 i1 hp.1
     exact ⟨x,hx,j,hp,e⟩
    ·rintro ⟨x,hx,j,hp,e⟩;obtain ⟨b1,b2,_⟩:=hsp.mem x hx
     exact ⟨x.index,j,b1,b2,hp,e⟩) (0,0,false) ⟨0,(0,false),YM _,rfl,by unfold BigI;simp,Best.none (by simp)⟩
 exact ⟨r,q1,q2⟩
theorem pair_at {g:Form} {up:Bool} {d i j:Int}:Z1C g up d i j ↔ ZJ g i ≠ []∧AtP g up ((if up then fstT (ZJ g i) else lstT (ZJ g i)) + d) j:=by
 unfold Z1C AtP
 cases up
 ·simp only [Y6,if_false];exact ⟨fun h => ⟨h.1,h.2.1,by omega⟩,fun h => ⟨h.1,h.2.1,by omega⟩⟩
 ·simp only [if_true];exact ⟨fun h => ⟨h.1,h.2.1,by omega⟩,fun h => ⟨h.1,h.2.1,by omega⟩⟩
theorem pair_to {g:Form} {up:Bool} {d i j:Int}:Z1C g up d i j ↔ ZJ g j ≠ []∧AtP g (!up) ((if up then lstT (ZJ g j) else fstT (ZJ g j)) - d) i:=by
 unfold Z1C AtP
 cases up
 ·simp only [Y6,if_false,Yp,if_true];exact ⟨fun h => ⟨h.2.1,h.1,by omega⟩,fun h => ⟨h.2.1,h.1,by omega⟩⟩
 ·simp only [if_true,YD,Y6,if_false];exact ⟨fun h => ⟨h.2.1,h.1,by omega⟩,fun h => ⟨h.2.1,h.1,by omega⟩⟩
theorem sg_not (up:Bool) (n:Int):sgU (!up) * n = -(sgU up * n):=by unfold sgU;cases up <;> simp
theorem far_odds {g:Form} (h:Fit g) (hb:0 < g.Count→¬ Bare g) {d:Int} (hd:ZD d) (up:Bool) {b:Int × Bool} {S:Int→Prop} (hbb:BigI b.1) (hB:Best S b) :
  ∃ r,loopO (ZT.s2 d up ⟨g,Z2F g⟩ (sgU up)) (0,b.1,b.2) = some r∧BigI r.1∧Best (fun m => S m∨∃ i j,(Z0B g i∨Z0B g j)∧Z1C g up d i j∧m = sgU up * (j - i)) r:=by
 have hs:=h.shape
 have hl:=h.lim
 have hodd:=h.odds
 obtain ⟨r,q1,q2⟩:=Z0Q (step:=ZT.s2 d up ⟨g,Z2F g⟩ (sgU up))
  (fun s => ∃ (k:Nat) (c:Int × Bool),k≤g.Odd.length∧s = ((k:Int),c.1,c.2)∧BigI c.1∧Best (fun m => S m∨∃ x ∈ g.Odd.take k,∃ i j,(x.Index = i∨x.Index = j)∧Z1C g up d i j∧m = sgU up * (j - i)) c)
  (fun s => g.Odd.length - s.1.toNat)
  (fun r => BigI r.1∧Best (fun m => S m∨∃ i j,(Z0B g i∨Z0B g j)∧Z1C g up d i j∧m = sgU up * (j - i)) r) (by
   rintro s ⟨k,c,hk,rfl,hcb,hc⟩;unfold ZT.s2;simp only
   by_cases hlt:k < g.Odd.length
   ·left
    have hm:=YF hlt
    have htk:g.Odd.take (k + 1) = g.Odd.take k ++ [g.Odd[k]]:=(Y05 hlt).symm
    have hset:ZJ g g.Odd[k].Index = g.Odd[k].Ticks:=Z1Y hs.inc hm
    have hti:=(hs.odd _ hm).2
    have hrt:=(hs.odd _ hm).1
    rw [ZP (show (k:Int) < g.Odd.length by omega),cond_true,at?_nat hlt]
    simp only [Y0];rw [Z9U (hl.ticks _ hm).2.1];simp only [Y0]
    by_cases hne:g.Odd[k].Ticks = []
    ·rw [if_pos hne];simp only [Yp,cond_true,Y0,Jx.elim];rw [Z6 (by omega)]
     refine ⟨_,rfl,⟨k + 1,c,hlt,by push_cast;rfl,hcb,?_⟩,by simp only;omega⟩
     refine hc.congr fun m => ?_
     rw [htk]
     constructor
     ·rintro (h1 | ⟨x,hx,i,j,h1,h2,h3⟩)
      ·exact .inl h1
      ·rcases List.mem_append.1 hx with h4 | h4
       ·exact .inr ⟨x,h4,i,j,h1,h2,h3⟩
       ·rw [YO] at h4;subst h4
        rcases h1 with rfl | rfl
        ·exact absurd (hset.trans hne) h2.1
        ·exact absurd (hset.trans hne) h2.2.1
     ·rintro (h1 | ⟨x,hx,h1⟩)
      ·exact .inl h1
      ·exact .inr ⟨x,Yf _ hx,h1⟩
    ·rw [if_neg hne];have rx:=Z5e hrt hne
     unfold ZD at rx hd hti;simp only [YD,cond_false];have hy:(bif up then some (lstT g.Odd[k].Ticks,fstT g.Odd[k].Ticks) else some (fstT g.Odd[k].Ticks,lstT g.Odd[k].Ticks)) = some ((if up then lstT g.Odd[k].Ticks else fstT g.Odd[k].Ticks),(if up then fstT g.Odd[k].Ticks else lstT g.Odd[k].Ticks)):=by cases up <;> rfl
     rw [hy];simp only [Y0];have hyb : -1099511627776≤(if up then lstT g.Odd[k].Ticks else fstT g.Odd[k].Ticks)∧(if up then lstT g.Odd[k].Ticks else fstT g.Odd[k].Ticks)≤1099511627776:=by split <;> omega
     have hzb : -1099511627776≤(if up then fstT g.Odd[k].Ticks else lstT g.Odd[k].Ticks)∧(if up then fstT g.Odd[k].Ticks else lstT g.Odd[k].Ticks)≤1099511627776:=by split <;> omega
     have pa:∀ j,Z1C g up d g.Odd[k].Index j ↔ AtP g up ((if up then fstT g.Odd[k].Ticks else lstT g.Odd[k].Ticks) + d) j:=fun j => by
      rw [pair_at,hset];exact ⟨fun h => h.2,fun h => ⟨hne,h⟩⟩
     have pt:∀ i,Z1C g up d i g.Odd[k].Index ↔ AtP g (!up) ((if up then lstT g.Odd[k].Ticks else fstT g.Odd[k].Ticks) - d) i:=fun i => by
      rw [pair_to,hset];exact ⟨fun h => h.2,fun h => ⟨hne,h⟩⟩
     generalize (if up then fstT g.Odd[k].Ticks else lstT g.Odd[k].Ticks) = z at *
     generalize (if up then lstT g.Odd[k].Ticks else fstT g.Odd[k].Ticks) = y at *
     rw [Z6 (x:=z + d) (by omega),Z6 (x:=y - d) (by omega)]
     obtain ⟨n1,p1,r1,t1,u1,v1⟩:=ZDj h hb (t:=z + d) (by unfold BigT;omega) up
     obtain ⟨n2,p2,r2,t2,u2,v2⟩:=ZDj h hb (t:=y - d) (by unfold BigT;omega) (!up)
     rw [r1,r2];simp only [Y0];have hb1:BigI (n1 - g.Odd[k].Index):=by unfold BigI;omega
     have hb2:BigI (g.Odd[k].Index - n2):=by unfold BigI;omega
     have first:∃ c1:Int × Bool,(bif p1 then
       (
        (loopO (ZT.s3) (([(w64 (sgU up * (w64 (n1 - g.Odd[k].Index))))].length:Int),0,[(w64 (sgU up * (w64 (n1 - g.Odd[k].Index))))],c.1,c.2)).bind fun (y16:(List Int) × Int × Bool) =>
        some (y16.1,y16.2.1,y16.2.2)).bind fun (y15:(List Int) × Int × Bool) =>
       some (y15.2.1,y15.2.2)
      else
       some (c.1,c.2)) = some c1∧BigI c1.1∧Best (fun m => (S m∨∃ x ∈ g.Odd.take k,∃ i j,(x.Index = i∨x.Index = j)∧Z1C g up d i j∧m = sgU up * (j - i))∨∃ j,Z1C g up d g.Odd[k].Index j∧m = sgU up * (j - g.Odd[k].Index)) c1:=by
      cases hp:p1 with
      | true =>
       subst hp;rw [cond_true,sgw2 up hb1,ZCt];obtain ⟨⟨i,i1,i2⟩,hall⟩:=t1.yes rfl
       have ei:i = n1:=by
        have:=congrArg (fun x => sgU up * x) i2
        simp only [sg_sg] at this;exact this.symm
       subst ei;refine ⟨_,rfl,putB_big hcb (sg_big hb1),?_⟩;refine hc.join (W:=fun m => ∃ j,Z1C g up d g.Odd[k].Index j∧m = sgU up * (j - g.Odd[k].Index)) ⟨i,(pa i).2 i1,rfl⟩ ?_ (fun m => Iff.rfl)
       rintro n ⟨j,j1,rfl⟩;exact sg_le (hall _ ⟨j,(pa j).1 j1,rfl⟩)
      | false =>
       subst hp;rw [cond_false];refine ⟨_,rfl,hcb,hc.congr fun m => ⟨?_,.inl⟩⟩
       rintro (h1 | ⟨j,j1,j2⟩)
       ·exact h1
       ·exact absurd ⟨j,(pa j).1 j1,rfl⟩ ((t1.no rfl).2 (sgU up * j))
     obtain ⟨c1,f1,f2,f3⟩:=first
     rw [f1];simp only [Y0];have second:∃ c2:Int × Bool,(bif p2 then
      (
       (loopO (ZT.s4) (([(w64 (sgU up * (w64 (g.Odd[k].Index - n2))))].length:Int),0,[(w64 (sgU up * (w64 (g.Odd[k].Index - n2))))],c1.1,c1.2)).bind fun (y20:(List Int) × Int × Bool) =>
       some (y20.1,y20.2.1,y20.2.2)).bind fun (y19:(List Int) × Int × Bool) =>
      some (Jx.go (y19.2.1,y19.2.2))
     else
      some (Jx.go (c1.1,c1.2)):Option (Jx (Int × Bool) Unit)) = some (.go c2)∧BigI c2.1∧Best (fun m => ((S m∨∃ x ∈ g.Odd.take k,∃ i j,(x.Index = i∨x.Index = j)∧Z1C g up d i j∧m = sgU up * (j - i))∨∃ j,Z1C g up d g.Odd[k].Index j∧m = sgU up * (j - g.Odd[k].Index))∨∃ i,Z1C g up d i g.Odd[k].Index∧m = sgU up * (g.Odd[k].Index - i)) c2:=by
      cases hp:p2 with
      | true =>
       subst hp;rw [cond_true,sgw2 up hb2,ZCw];obtain ⟨⟨i,i1,i2⟩,hall⟩:=t2.yes rfl
       have ei:i = n2:=by
        have:=congrArg (fun x => sgU (!up) * x) i2
        simp only [sg_sg] at this;exact this.symm
       subst ei;refine ⟨_,rfl,putB_big f2 (sg_big hb2),?_⟩;refine f3.join (W:=fun m => ∃ i,Z1C g up d i g.Odd[k].Index∧m = sgU up * (g.Odd[k].Index - i)) ⟨i,(pt i).2 i1,rfl⟩ ?_ (fun m => Iff.rfl)
       rintro n ⟨j,j1,rfl⟩;have:=hall _ ⟨j,(pt j).1 j1,rfl⟩
       rw [sg_not,sg_not] at this;rw [Int.mul_sub,Int.mul_sub];omega
      | false =>
       subst hp;rw [cond_false];refine ⟨_,rfl,f2,f3.congr fun m => ⟨?_,.inl⟩⟩
       rintro (h1 | ⟨j,j1,j2⟩)
       ·exact h1
       ·exact absurd ⟨j,(pt j).1 j1,rfl⟩ ((t2.no rfl).2 (sgU (!up) * j))
     obtain ⟨c2,g1,g2,g3⟩:=second
     rw [g1];simp only [Y0,Jx.elim];rw [Z6 (by omega)]
     refine ⟨_,rfl,⟨k + 1,c2,hlt,by push_cast;rfl,g2,?_⟩,by simp only;omega⟩
     refine g3.congr fun m => ?_
     rw [htk]
     constructor
     ·rintro (h1 | ⟨x,hx,i,j,h1,h2,h3⟩)
      ·exact .inl (.inl (.inl h1))
      ·rcases List.mem_append.1 hx with h4 | h4
       ·exact .inl (.inl (.inr ⟨x,h4,i,j,h1,h2,h3⟩))
       ·rw [YO] at h4;subst h4
        rcases h1 with rfl | rfl
        ·exact .inl (.inr ⟨j,h2,h3⟩)
        ·exact .inr ⟨i,h2,h3⟩
     ·rintro (((h1 | ⟨x,hx,h1⟩) | ⟨j,j1,j2⟩) | ⟨i,i1,i2⟩)
      ·exact .inl h1
      ·exact .inr ⟨x,Yf _ hx,h1⟩
      ·exact .inr ⟨_,Yi _ (List.mem_singleton.2 rfl),_,j,.inl rfl,j1,j2⟩
      ·exact .inr ⟨_,Yi _ (List.mem_singleton.2 rfl),i,_,.inr rfl,i1,i2⟩
   ·right
    obtain rfl:k = g.Odd.length:=by omega
    rw [ZQ (by omega),cond_false]
    rw [Yz] at hc;refine ⟨_,rfl,hcb,hc.congr fun m => ?_⟩
    constructor
    ·rintro (h1 | ⟨i,j,h1,h2,h3⟩)
     ·exact .inl h1
     ·rcases h1 with ⟨x,hx,hxi⟩ | ⟨x,hx,hxi⟩
      ·exact .inr ⟨x,hx,i,j,.inl hxi,h2,h3⟩
      ·exact .inr ⟨x,hx,i,j,.inr hxi,h2,h3⟩
    ·rintro (h1 | ⟨x,hx,i,j,h1,h2,h3⟩)
     ·exact .inl h1
     ·rcases h1 with h1 | h1
      ·exact .inr ⟨i,j,.inl ⟨x,hx,h1⟩,h2,h3⟩
      ·exact .inr ⟨i,j,.inr ⟨x,hx,h1⟩,h2,h3⟩) (0,b.1,b.2) ⟨0,b,YM _,rfl,hbb,hB.congr fun m => by simp⟩
 exact ⟨r,q1,q2⟩
theorem ZDx {g:Form} (h:Fit g) (h0:0 < g.Count) {up:Bool} {d i j:Int} (hp:CoreP g up d i j):∃ i' j',Z1C g up d i' j'∧j' - i' = j - i:=by
 obtain ⟨k,hk,hn⟩:=pigeon (g.Odd.map (·.Index) ++ g.Odd.map (fun x => x.Index - (j - i))) (fun k => i + g.Count * k) (fun a b hab => by
  have h4:g.Count * (a:Int) = g.Count * b:=by omega
  have:=Int.eq_of_mul_eq_mul_left (by omega) h4
  omega)
 rw [Yl,not_or] at hn
 have o1:¬ Z0B g (i + g.Count * k):=by
  rintro ⟨x,hx,e⟩;exact hn.1 (List.mem_map.2 ⟨x,hx,e⟩)
 have o2:¬ Z0B g (j + g.Count * k):=by
  rintro ⟨x,hx,e⟩;exact hn.2 (List.mem_map.2 ⟨x,hx,by rw [e];omega⟩)
 refine ⟨i + g.Count * k,j + g.Count * k,?_,by omega⟩
 obtain ⟨p1,p2,p3⟩:=hp
 unfold Z1C
 rw [Z35 h0 o1,Z35 h0 o2,Z5w h0,Z5w h0,(Z0d _ p1).1,(Z0d _ p1).2,(Z0d _ p2).1,(Z0d _ p2).2]
 refine ⟨by simpa using p1,by simpa using p2,?_⟩
 cases up
 ·simp only [Y6,if_false] at p3 ⊢;omega
 ·simp only [if_true] at p3 ⊢;omega
theorem ZCx {g:Form} (h:Fit g) {up:Bool} {d i j:Int} (hi:¬ Z0B g i) (hj:¬ Z0B g j) (hp:Z1C g up d i j):0 < g.Count∧∃ i' j',0≤i'∧i' < g.Count∧CoreP g up d i' j'∧j' - i' = j - i:=by
 have hc:=h.shape.count
 have h0:0 < g.Count:=by
  by_cases h0:0 < g.Count
  ·exact h0
  ·exact absurd (Z1r hi (by omega)) hp.1
 refine ⟨h0,?_⟩
 unfold Z1C at hp
 rw [Z35 h0 hi,Z35 h0 hj] at hp
 obtain ⟨s,q,s0,s1,rfl,es⟩:=Z52 h0 i
 have ej:cs g j = (cs g (j - g.Count * q)).map (Z0A (q * g.Period)):=by
  have:=Z5w h0 (j - g.Count * q) q
  rwa [show j - g.Count * q + g.Count * q = j by omega] at this
 rw [es,ej] at hp
 obtain ⟨p1,p2,p3⟩:=hp
 have n1:cs g s ≠ []:=by simpa using p1
 have n2:cs g (j - g.Count * q) ≠ []:=by simpa using p2
 rw [(Z0d _ n1).1,(Z0d _ n1).2,(Z0d _ n2).1,(Z0d _ n2).2] at p3
 refine ⟨s,j - g.Count * q,s0,s1,⟨n1,n2,?_⟩,by omega⟩
 cases up
 ·simp only [Y6,if_false] at p3 ⊢;omega
 ·simp only [if_true] at p3 ⊢;omega
theorem far_eq {f g:Form} (hg:Zy f = some g) (h:Fit g) (hb:0 < g.Count→¬ Bare g) {d:Int} (hd:ZD d) (up:Bool) :
  ∃ n b,ZT f d up = some (n,b,0)∧BigI n∧Best (fun m => ∃ i j,Z1C g up d i j∧m = sgU up * (j - i)) (sgU up * n,b):=by
 unfold ZT
 have hr:Z3b d = true:=by unfold Z3b;unfold ZD at hd;simp;omega
 rw [hr,YD,cond_false,made_eq hg h.lim h.few]
 simp only [Y0]
 have hy:(bif up then some (-1:Int) else some 1) = some (sgU up):=by unfold sgU;cases up <;> rfl
 rw [hy]
 simp only [Y0]
 obtain ⟨r1,a1,a2,a3⟩:=far_spots h hb hd up
 rw [a1]
 simp only [Y0]
 obtain ⟨r2,b1,b2,b3⟩:=far_odds h hb hd up a2 a3
 rw [b1]
 simp only [Y0]
 have hw:w64 (sgU up * r2.1) = sgU up * r2.1:=by
  have:=sg_big (up:=up) b2
  unfold BigI at this;exact Z6 (by omega)
 rw [hw]
 refine ⟨_,_,rfl,sg_big b2,?_⟩
 rw [sg_sg]
 refine b3.congr fun m => ?_
 constructor
 ·rintro ⟨i,j,p,e⟩
  by_cases hi:Z0B g i
  ·exact .inr ⟨i,j,.inl hi,p,e⟩
  ·by_cases hj:Z0B g j
   ·exact .inr ⟨i,j,.inr hj,p,e⟩
   ·obtain ⟨h0,i',j',i0,i1,hp,e'⟩:=ZCx h hi hj p
    exact .inl ⟨i',j',i0,i1,hp,by rw [e,e']⟩
 ·rintro (⟨i,j,i0,i1,hp,e⟩ | ⟨i,j,ho,p,e⟩)
  ·obtain ⟨i',j',p,e'⟩:=ZDx h (by omega) hp
   exact ⟨i',j',p,by rw [e,e']⟩
  ·exact ⟨i,j,p,e⟩
end Go.Dn

namespace Go.Dn
open Go
def FewF (f:Form):Prop:=f.Core.length≤12∧f.Odd.length≤8
theorem Z8f.few {f:Form} (h:Z8f f):FewF f:=⟨h.1,h.2.1⟩
theorem ZCL {f:Form} (hl:Lim f) (hr:RightF f) (hsm:FewF f):∃ g,Zy f = some g∧Fit g∧(0 < g.Count→¬ Bare g)∧ZJ g = ZJ f:=by
 have hs:=hr.shape
 obtain ⟨c,hc,hf⟩:=canon_Form_eq hl hs
 have hs':=Z85 hs hc
 have hr':=canonF_right hr hc
 have hcl:=coreOf_le hs hc
 refine ⟨_,hf,⟨canonF_lim hl hs hc,hs',hr'.turns,Yc hcl.2.2.1 hsm.1,Yc (Y0W _ _) hsm.2⟩,?_,ZAi hs hc⟩
 intro h0 hb
 have ez:=Z8I hs hc
 have hz:∀ i,csz f i = []:=fun i => by rw [← ez];exact csz_bare hs' hb i
 rcases hc with ⟨h1,rfl⟩ | ⟨h1,h2,_⟩
 ·exact absurd h0 (by show ¬ (0:Int) < 0;omega)
 ·obtain ⟨i,i1,i2,i3⟩:=cs_some hs h1 h2 0
  have:=hz i
  rw [Z61 h2] at this;exact i3 this
structure DownS (f:Form) (d:Int) (r:Int × Bool):Prop where
 yes:r.2 = true→(∃ i j,Z1C f false d i j∧r.1 = j - i)∧∀ i j,Z1C f false d i j→j - i≤r.1
 no:r.2 = false→∀ i j,¬ Z1C f false d i j
structure UpS (f:Form) (d:Int) (r:Int × Bool):Prop where
 yes:r.2 = true→(∃ i j,Z1C f true d i j∧r.1 = j - i)∧∀ i j,Z1C f true d i j→r.1≤j - i
 no:r.2 = false→∀ i j,¬ Z1C f true d i j
theorem Z4x {f g:Form} (h:ZJ g = ZJ f) {up:Bool} {d i j:Int}:Z1C g up d i j ↔ Z1C f up d i j:=by unfold Z1C;rw [h]
theorem Z7i {f:Form} (hl:Lim f) (hr:RightF f) (hsm:FewF f) {d:Int} (hd:ZD d):∃ n b,Z4F f d = some (n,b,0)∧BigI n∧DownS f d (n,b):=by
 obtain ⟨g,g1,g2,g3,g4⟩:=ZCL hl hr hsm
 obtain ⟨n,b,e1,e2,e3⟩:=far_eq g1 g2 g3 hd false
 unfold Z4F
 rw [e1]
 refine ⟨n,b,rfl,e2,⟨fun hb => ?_,fun hb i j hp => ?_⟩⟩
 ·obtain ⟨⟨i,j,p,e⟩,hall⟩:=e3.yes hb
  simp only [sgU,Y6,if_false,Int.one_mul] at e hall;refine ⟨⟨i,j,(Z4x g4).1 p,e⟩,fun i' j' hp => ?_⟩
  exact hall _ ⟨i',j',(Z4x g4).2 hp,rfl⟩
 ·exact (e3.no hb).2 _ ⟨i,j,(Z4x g4).2 hp,rfl⟩
theorem Z7m {f:Form} (hl:Lim f) (hr:RightF f) (hsm:FewF f) {d:Int} (hd:ZD d):∃ n b,Z86 f d = some (n,b,0)∧BigI n∧UpS f d (n,b):=by
 obtain ⟨g,g1,g2,g3,g4⟩:=ZCL hl hr hsm
 obtain ⟨n,b,e1,e2,e3⟩:=far_eq g1 g2 g3 hd true
 unfold Z86
 rw [e1]
 refine ⟨n,b,rfl,e2,⟨fun hb => ?_,fun hb i j hp => ?_⟩⟩
 ·obtain ⟨⟨i,j,p,e⟩,hall⟩:=e3.yes hb
  simp only [sgU,if_true] at e hall;refine ⟨⟨i,j,(Z4x g4).1 p,by simp only;omega⟩,fun i' j' hp => ?_⟩
  have:=hall _ ⟨i',j',(Z4x g4).2 hp,rfl⟩
  simp only;omega
 ·exact (e3.no hb).2 _ ⟨i,j,(Z4x g4).2 hp,rfl⟩
theorem ZC2 {f:Form} {d d' i j:Int} (h:Z1C f false d i j) (hd:d≤d'):Z1C f false d' i j:=by
 unfold Z1C at *
 simp only [Y6,if_false] at *
 exact ⟨h.1,h.2.1,by omega⟩
theorem up_mono {f:Form} {d d' i j:Int} (h:Z1C f true d i j) (hd:d'≤d):Z1C f true d' i j:=by
 unfold Z1C at *
 simp only [if_true] at *
 exact ⟨h.1,h.2.1,by omega⟩
noncomputable def bad (low high:Bound):Bool:=(((!(ZF low)) || (!(ZF high))) || (low.Inf == 1)) || (high.Inf == (-1))
structure RangeS (f:Form) (low high:Bound) (r:Range) (ok:Bool):Prop where
 none:ok = false→r = Range.mk 0 0 false false
 hi:ok = true→(r.HasHigh = true ↔ high.Inf = 0∧high.N≤1099511627776)
 lo:ok = true→(r.HasLow = true ↔ low.Inf = 0∧-1099511627776≤low.N)
 atH:ok = true→r.HasHigh = true→DownS f (max high.N (-1099511627776)) (r.High,true)
 atL:ok = true→r.HasLow = true→UpS f (min low.N 1099511627776) (r.Low,true)
 nhi:ok = true→r.HasHigh = false→r.High = 0
 nlo:ok = true→r.HasLow = false→r.Low = 0
 not:ok = false→(high.Inf = 0∧high.N≤1099511627776∧∀ i j,¬ Z1C f false (max high.N (-1099511627776)) i j)∨(low.Inf = 0∧-1099511627776≤low.N∧∀ i j,¬ Z1C f true (min low.N 1099511627776) i j)
theorem Z91 {f:Form} (hl:Lim f) (hr:RightF f) (hsm:FewF f) {low high:Bound} (h:bad low high = false):∃ r ok,Z0g f low high = some (r,ok,0)∧RangeS f low high r ok:=by
 unfold Z0g
 rw [show ((((!(ZF low)) || (!(ZF high))) || (low.Inf == 1)) || (high.Inf == (-1))) = false from h,cond_false]
 have t1:ZD (max high.N (-1099511627776))∨¬ (high.N≤1099511627776):=by unfold ZD;omega
 have t2:ZD (min low.N 1099511627776)∨¬ (-1099511627776≤low.N):=by unfold ZD;omega
 rw [ZAo,Z7w]
 -- the high end
 by_cases ch:high.Inf = 0∧high.N≤1099511627776
 ·have ech:((high.Inf == 0) && (decide (high.N≤1099511627776))) = true:=by simp [ch.1,ch.2]
  rw [ech,cond_true];obtain ⟨n,b,e1,e2,e3⟩:=Z7i hl hr hsm (t1.resolve_right fun h => h ch.2)
  rw [e1];simp only [Y0];cases b with
  | false =>
   simp only [Yp,cond_true,Y0,Jx.elim];exact ⟨_,_,rfl,fun _ => rfl,nofun,nofun,nofun,nofun,nofun,nofun,fun _ => .inl ⟨ch.1,ch.2,e3.no rfl⟩⟩
  | true =>
   simp only [YD,cond_false,Y0,Jx.elim]
   by_cases cl:low.Inf = 0∧-1099511627776≤low.N
   ·have ecl:((low.Inf == 0) && (decide (low.N ≥ (-1099511627776)))) = true:=by simp [cl.1];exact cl.2
    rw [ecl,cond_true];obtain ⟨m,c,f1,f2,f3⟩:=Z7m hl hr hsm (t2.resolve_right fun h => h cl.2)
    rw [f1];simp only [Y0];cases c with
    | false =>
     simp only [Yp,cond_true,Y0,Jx.elim];exact ⟨_,_,rfl,fun _ => rfl,nofun,nofun,nofun,nofun,nofun,nofun,fun _ => .inr ⟨cl.1,cl.2,f3.no rfl⟩⟩
    | true =>
     simp only [YD,cond_false,Y0,Jx.elim];exact ⟨_,_,rfl,nofun,fun _ => ⟨fun _ => ch,fun _ => rfl⟩,fun _ => ⟨fun _ => cl,fun _ => rfl⟩,fun _ _ => e3,fun _ _ => f3,fun _ h => (by cases h),fun _ h => (by cases h),nofun⟩
   ·have ecl:((low.Inf == 0) && (decide (low.N ≥ (-1099511627776)))) = false:=by
     apply Bool.eq_false_iff.2;intro h;simp at h;exact cl ⟨h.1,h.2⟩
    rw [ecl,cond_false];simp only [Y0,Jx.elim];exact ⟨_,_,rfl,nofun,fun _ => ⟨fun _ => ch,fun _ => rfl⟩,fun _ => ⟨fun h => (by cases h),fun h => absurd h cl⟩,fun _ _ => e3,fun _ h => (by cases h),fun _ h => (by cases h),fun _ _ => rfl,nofun⟩
 ·have ech:((high.Inf == 0) && (decide (high.N≤1099511627776))) = false:=by
   apply Bool.eq_false_iff.2;intro h;simp at h;exact ch h
  rw [ech,cond_false];simp only [Y0,Jx.elim]
  by_cases cl:low.Inf = 0∧-1099511627776≤low.N
  ·have ecl:((low.Inf == 0) && (decide (low.N ≥ (-1099511627776)))) = true:=by simp [cl.1];exact cl.2
   rw [ecl,cond_true];obtain ⟨m,c,f1,f2,f3⟩:=Z7m hl hr hsm (t2.resolve_right fun h => h cl.2)
   rw [f1];simp only [Y0];cases c with
   | false =>
    simp only [Yp,cond_true,Y0,Jx.elim];exact ⟨_,_,rfl,fun _ => rfl,nofun,nofun,nofun,nofun,nofun,nofun,fun _ => .inr ⟨cl.1,cl.2,f3.no rfl⟩⟩
   | true =>
    simp only [YD,cond_false,Y0,Jx.elim];exact ⟨_,_,rfl,nofun,fun _ => ⟨fun h => (by cases h),fun h => absurd h ch⟩,fun _ => ⟨fun _ => cl,fun _ => rfl⟩,fun _ h => (by cases h),fun _ _ => f3,fun _ _ => rfl,fun _ h => (by cases h),nofun⟩
  ·have ecl:((low.Inf == 0) && (decide (low.N ≥ (-1099511627776)))) = false:=by
    apply Bool.eq_false_iff.2;intro h;simp at h;exact cl ⟨h.1,h.2⟩
   rw [ecl,cond_false];simp only [Y0,Jx.elim];exact ⟨_,_,rfl,nofun,fun _ => ⟨fun h => (by cases h),fun h => absurd h ch⟩,fun _ => ⟨fun h => (by cases h),fun h => absurd h cl⟩,fun _ h => (by cases h),fun _ h => (by cases h),fun _ _ => rfl,fun _ _ => rfl,nofun⟩
def Near (f:Form) (m d:Int):Prop:=∃ i j,Z1C f false d i j∧m≤j - i
theorem Near.mono {f:Form} {m m' d d':Int} (h:Near f m d) (hm:m'≤m) (hd:d≤d'):Near f m' d':=by
 obtain ⟨i,j,h1,h2⟩:=h
 exact ⟨i,j,ZC2 h1 hd,by omega⟩
def farI (m:Int):Int:=min (max m (-4611686018427387904)) 4611686018427387904
theorem farI_eq (m:Int):iMin (iMax m (-4611686018427387904)) 4611686018427387904 = farI m:=by rw [ZAo,Z7w];rfl
def LowD (f:Form) (m d:Int):Prop:=-1099511627776≤d∧d≤1099511627776∧(∀ z,-1099511627776≤z→z < d→¬ Near f m z)∧(d < 1099511627776→Near f m d)
def boundD (d:Int):Bound:=if d = -1099511627776 then ⟨-1,0⟩ else ⟨0,d⟩
open Classical in
theorem ZB4 {f:Form} (hl:Lim f) (hr:RightF f) (hsm:FewF f) (m:Int):∃ d,Z2r f m = some (boundD d)∧LowD f (farI m) d:=by
 unfold Z2r
 rw [farI_eq]
 obtain ⟨r,s1,s2,s3,s4,s5⟩:=ZBf (n:=2199023255553) (by omega) (by omega) (f:=fun z0 => Z0v (carry_asked.mk f (farI m)) z0) (p:=fun z => decide (Near f (farI m) (z - 1099511627776))) (by
   intro z z0 z1;unfold Z0v;simp only;rw [Z6 (x:=z - 1099511627776) (by omega)]
   obtain ⟨n,b,e1,e2,e3⟩:=Z7i hl hr hsm (d:=z - 1099511627776) (by unfold ZD;omega)
   rw [e1];simp only [Y0,beq_self_eq_true,Bool.and_true,Y5];cases b with
   | false =>
    rw [Y0T];symm;apply ZQ;rintro ⟨i,j,h1,h2⟩;exact e3.no rfl i j h1
   | true =>
    rw [Y0q,decide_eq_decide];obtain ⟨⟨i,j,h1,h2⟩,hall⟩:=e3.yes rfl
    constructor
    ·intro h;exact ⟨i,j,h1,by simp only at h2;omega⟩
    ·rintro ⟨i',j',h3,h4⟩;have:=hall i' j' h3
     simp only at this;omega) (by
   intro a b a0 hab hb hp;simp only [decide_eq_true_eq] at hp ⊢;exact hp.mono (Yb _) (by omega))
 rw [s1]
 simp only [Y0]
 rw [Z7w,Z6 (by omega)]
 refine ⟨min r 2199023255552 - 1099511627776,?_,by omega,by omega,?_,?_⟩
 ·unfold boundD
  by_cases h:min r 2199023255552 - 1099511627776 = -1099511627776
  ·rw [beq_t h,cond_true,if_pos h]
  ·rw [beq_f h,cond_false,if_neg h]
 ·intro z z0 z1;have:=s4 (z + 1099511627776) (by omega) (by omega)
  simp only [decide_eq_false_iff_not] at this
  rwa [show z + 1099511627776 - 1099511627776 = z by omega] at this
 ·intro hlt;have:=s5 r (Yb _) (by omega)
  simp only [decide_eq_true_eq] at this
  rwa [show min r 2199023255552 = r by omega]
theorem LowD.mono {f:Form} {m m' d d':Int} (h:LowD f m d) (h':LowD f m' d') (hm:m≤m'):d≤d':=by
 obtain ⟨a1,a2,a3,a4⟩:=h
 obtain ⟨b1,b2,b3,b4⟩:=h'
 by_cases hd:d≤d'
 ·exact hd
 ·exact absurd ((b4 (by omega)).mono hm (Yb _)) (a3 d' b1 (by omega))
def ZC3 (d:Int):Bound:=if d = -1099511627776 then ⟨1,0⟩ else ⟨0,-d⟩
theorem ZCT {d:Int} (h : -1099511627776≤d∧d≤1099511627776):(Z5 (boundD d)).1 = ZC3 d:=by
 unfold boundD ZC3
 by_cases h0:d = -1099511627776
 ·rw [if_pos h0,if_pos h0];decide
 ·rw [if_neg h0,if_neg h0];unfold Z5;have hr:ZF ⟨0,d⟩ = true:=rfl
  rw [hr,YD,cond_false];have hs:Z11 0 d = (-d,0):=by
   unfold Z11;rw [Z6 (x:=0 - d) (by omega)]
   have:((decide (0 - d < 0) != decide (d > 0)) && d != 0) = false:=by
    by_cases hp:d > 0
    ·rw [ZP hp,ZP (by omega)];rfl
    ·rw [ZQ hp,ZQ (by omega)];rfl
   rw [this,cond_false,show 0 - d = -d by omega]
  rw [hs]
  rfl
theorem carry_High_eq {f:Form} (hl:Lim f) (hr:RightF f) (hsm:FewF f) {n:Int} (hn:In64 n):∃ d,Z2h f n = some (ZC3 d)∧LowD f (farI (-(max n (-4611686018427387904)))) d:=by
 unfold Z2h
 unfold In64 at hn
 rw [ZAo,Z6 (by omega),show 0 - max n (-4611686018427387904) = -(max n (-4611686018427387904)) by omega]
 obtain ⟨d,e1,e2⟩:=ZB4 hl hr hsm (-(max n (-4611686018427387904)))
 rw [e1]
 exact ⟨d,by simp only [Y0];rw [ZCT ⟨e2.1,e2.2.1⟩],e2⟩
def goodB (x:Bound):Prop:=ZF x = true∧x.N≤1099511627776∧-1099511627776≤x.N
end Go.Dn

namespace Go.Dn
open Go
structure NearF0 (f:Form):Prop where
 lim:Lim f
 right:RightF f
 small:Z8f f
 per:f.Period≤200
 hull:∀ l ∈ f.Core,l ≠ []→-100≤fstT l∧lstT l≤100
 odd:∀ g ∈ f.Odd,-100≤g.Index∧g.Index≤100
theorem span_within {l:List Span} (h:RightL l):∀ s ∈ l,fstT l≤s.From∧s.From≤s.To∧s.To≤lstT l:=by
 induction l with
 | nil => intro s hs;cases hs
 | cons x l ih =>
  intro s hs;have h0:=h.ok 0 x rfl
  cases l with
  | nil =>
   rw [YO] at hs;subst hs;exact ⟨Yb _,h0.2.2,Yb _⟩
  | cons y l =>
   have h1:=h.gap 0 x y rfl rfl
   have e1:lstT (x :: y :: l) = lstT (y :: l):=by simp [lstT]
   have e2:fstT (y :: l) = y.From:=rfl
   have e3:fstT (x :: y :: l) = x.From:=rfl
   have hf:=Z1m h.tail (by simp)
   rw [e1,e3]
   rcases List.mem_cons.1 hs with rfl | hs
   ·exact ⟨Yb _,h0.2.2,by omega⟩
   ·have:=ih h.tail s hs
    exact ⟨by omega,this.2.1,this.2.2⟩
theorem NearF0.core {f:Form} (h:NearF0 f) (h0:0 < f.Count) {i:Int} (hi : -2000≤i∧i≤2000):∀ s ∈ cs f i,-500000≤s.From∧s.To≤500000∧s.From≤s.To:=by
 intro s hs
 obtain ⟨j,q,j0,j1,rfl,e⟩:=Z52 h0 i
 rw [e] at hs
 obtain ⟨s0,hs0,rfl⟩:=List.mem_map.1 hs
 have hr:=Z32 h.right.shape h0 j0 j1
 have hne:cs f j ≠ []:=Y0v hs0
 have hm:cs f j ∈ f.Core:=by
  rw [Z3u j0 j1];have:=h.right.shape.count
  have hj:j.toNat < f.Core.length:=by omega
  rw [YJ,Y2 hj];exact YF hj
 have h1:=span_within hr s0 hs0
 have h2:=h.hull _ hm hne
 have hc:=h.right.shape.count
 have hp:=h.right.shape.per
 have hp2:=h.per
 have hq : -2000≤q∧q≤2000:=by
  constructor
  ·by_cases hq : -2000≤q
   ·exact hq
   ·have:f.Count * q≤f.Count * -2001:=Yj (by omega) (by omega)
    have:f.Count * -2001≤j - 2001 - f.Count:=by
     have:1≤f.Count:=by omega
     omega
    omega
  ·by_cases hq:q≤2000
   ·exact hq
   ·have:f.Count * 2001≤f.Count * q:=Yj (by omega) (by omega)
    omega
 have b1:=Y00 hq.1 hp.1
 have b2:=Y00 hq.2 hp.1
 simp only [Z0A]
 omega
theorem NearF0.ZAQ {f:Form} (h:NearF0 f) {i:Int} (hi:Z0B f i) : -100≤i∧i≤100:=by
 obtain ⟨g,hg,rfl⟩:=hi
 exact h.odd g hg
theorem NearF0.fits {f:Form} (h:NearF0 f) {i:Int} (hi : -2000≤i∧i≤2000):fits f i:=by
 intro s hs
 by_cases ho:Z0B f i
 ·obtain ⟨g,hg,rfl⟩:=ho
  rw [Z1Y h.right.shape.inc hg] at hs;obtain ⟨k,hk⟩:=YC hs
  have:=(h.right.shape.odd g hg).1.ok k s hk
  exact ⟨this.1,this.2.1⟩
 ·by_cases h0:0 < f.Count
  ·rw [Z35 h0 ho] at hs;have:=h.core h0 hi s hs
   unfold ZD;omega
  ·rw [Z1r ho (by have:=h.right.shape.count;omega)] at hs;cases hs
theorem shift_to {f:Form} (h0:0 < f.Count) (i a:Int):∃ q,a≤i + f.Count * q∧i + f.Count * q < a + f.Count:=by
 refine ⟨-((i - a) / f.Count),?_⟩
 have e:=Yv (i - a) f.Count
 have e0:=Yn (i - a) (show f.Count ≠ 0 by omega)
 have e1:=Yx (i - a) h0
 rw [Int.mul_neg]
 omega
theorem NearF0.Z9W {f:Form} (h:NearF0 f) {i:Int} (hi:¬ Z0B f i) (hn:ZJ f i ≠ []):0 < f.Count∧f.Count≤12∧cs f i ≠ []:=by
 have hc:=h.right.shape.count
 have hs:=h.small.1
 have h0:0 < f.Count:=by
  by_cases h0:0 < f.Count
  ·exact h0
  ·exact absurd (Z1r hi (by omega)) hn
 rw [Z35 h0 hi] at hn
 exact ⟨h0,by omega,hn⟩
theorem NearF0.turned {f:Form} (h:NearF0 f) (h0:0 < f.Count) {i q:Int} (hn:cs f i ≠ []) (ho:¬ Z0B f (i + f.Count * q)):ZJ f (i + f.Count * q) ≠ []∧fstT (ZJ f (i + f.Count * q)) = fstT (cs f i) + q * f.Period∧lstT (ZJ f (i + f.Count * q)) = lstT (cs f i) + q * f.Period:=by
 rw [Z35 h0 ho,Z5w h0,(Z0d _ hn).1,(Z0d _ hn).2]
 exact ⟨by simpa using hn,rfl,rfl⟩
theorem NearF0.Z6r {f:Form} (h:NearF0 f) {i k:Int} (hik:i < k) (hi : -2000≤i∧i≤2000) (hk : -2000≤k∧k≤2000) (ni:ZJ f i ≠ []) (nk:ZJ f k ≠ []):lstT (ZJ f i) < fstT (ZJ f k) :=
 RightF.order h.lim h.right _ i k rfl hik (by unfold ZD;omega) (by unfold ZD;omega) (h.fits hi) (h.fits hk) ni nk
theorem NearF0.ZA3 {f:Form} (h:NearF0 f) (h0:0 < f.Count) {i k:Int} (hik:i < k) (oi:¬ Z0B f i) (ok:¬ Z0B f k) (ni:ZJ f i ≠ []) (nk:ZJ f k ≠ []):lstT (ZJ f i) < fstT (ZJ f k):=by
 rw [Z35 h0 oi] at ni ⊢
 rw [Z35 h0 ok] at nk ⊢
 exact Z6b h.right.shape h.right.turns h0 hik ni nk
theorem NearF0.le_small {f:Form} (h:NearF0 f) {i:Int} (hi : -2000≤i∧i≤2000) (ni:ZJ f i ≠ []):fstT (ZJ f i)≤lstT (ZJ f i) :=
 Z1m (Z6s h.right.shape (h.fits hi)) ni
theorem NearF0.order {f:Form} (h:NearF0 f) {i k:Int} (hik:i < k) (ni:ZJ f i ≠ []) (nk:ZJ f k ≠ []):lstT (ZJ f i) < fstT (ZJ f k):=by
 by_cases oi:Z0B f i
 ·have bi:=h.ZAQ oi
  by_cases hk:k≤2000
  ·exact h.Z6r hik (by omega) (by omega) ni nk
  ·have ok:¬ Z0B f k:=fun o => by have:=h.ZAQ o;omega
   obtain ⟨h0,h12,ck⟩:=h.Z9W ok nk
   obtain ⟨q,q1,q2⟩:=shift_to h0 k 900
   have oc:¬ Z0B f (k + f.Count * q):=fun o => by have:=h.ZAQ o;omega
   obtain ⟨nc,c1,c2⟩:=h.turned h0 ck oc
   have o1:=h.Z6r (k:=k + f.Count * q) (by omega) (by omega) (by omega) ni nc
   have o2:=h.le_small (i:=k + f.Count * q) (by omega) nc
   have o3:=h.ZA3 h0 (i:=k + f.Count * q) (k:=k) (by omega) oc ok nc nk
   omega
 ·by_cases ok:Z0B f k
  ·have bk:=h.ZAQ ok
   by_cases hi : -2000≤i
   ·exact h.Z6r hik (by omega) (by omega) ni nk
   ·obtain ⟨h0,h12,ci⟩:=h.Z9W oi ni
    obtain ⟨q,q1,q2⟩:=shift_to h0 i (-900)
    have oc:¬ Z0B f (i + f.Count * q):=fun o => by have:=h.ZAQ o;omega
    obtain ⟨nc,c1,c2⟩:=h.turned h0 ci oc
    have o1:=h.ZA3 h0 (i:=i) (k:=i + f.Count * q) (by omega) oi oc ni nc
    have o2:=h.le_small (i:=i + f.Count * q) (by omega) nc
    have o3:=h.Z6r (i:=i + f.Count * q) (k:=k) (by omega) (by omega) (by omega) nc nk
    omega
  ·obtain ⟨h0,_,_⟩:=h.Z9W oi ni
   exact h.ZA3 h0 hik oi ok ni nk
theorem NearF0.window {f:Form} (h:NearF0 f) {a j:Int} (ha : -900≤a∧a≤900) (hj:a≤j) (nj:ZJ f j ≠ []):∃ k,a≤k∧k≤max (a + 30) 130∧k≤j∧ZJ f k ≠ []:=by
 by_cases hw:j≤max (a + 30) 130
 ·exact ⟨j,hj,hw,Yb _,nj⟩
 ·have oj:¬ Z0B f j:=fun o => by have:=h.ZAQ o;omega
  obtain ⟨h0,h12,cj⟩:=h.Z9W oj nj
  obtain ⟨q,q1,q2⟩:=shift_to h0 j (max a 101)
  have oj':¬ Z0B f (j + f.Count * q):=fun o => by have:=h.ZAQ o;omega
  obtain ⟨b1,b2,b3⟩:=h.turned h0 cj oj'
  exact ⟨_,by omega,by omega,by omega,b1⟩
end Go.Dn

namespace Go.Dn
open Go
structure GapS (f:Form) (m:Int) (lo:Int→Prop) (b:Int × Bool):Prop where
 yes:b.2 = true→∃ i j,i + m≤j∧ZJ f i ≠ []∧ZJ f j ≠ []∧b.1 = fstT (ZJ f j) - lstT (ZJ f i)
 all:∀ i j,lo i→i + m≤j→ZJ f i ≠ []→ZJ f j ≠ []→b.2 = true∧b.1≤fstT (ZJ f j) - lstT (ZJ f i)
theorem ZBe {f:Form} (hl:Lim f):∃ b,ZU f = some b∧(b = true→NearF0 f):=by
 unfold ZU
 obtain ⟨b,e1,i1⟩:=Z9g hl
 rw [e1]
 cases b with
 | false => exact ⟨false,rfl,nofun⟩
 | true =>
  have hsm:=i1.1 rfl
  have hnl:¬ LongF f:=by unfold LongF;have:=hsm.1;have:=hsm.2.1;have:=hsm.2.2;omega
  simp only [Y0,YD,cond_false]
  rcases Z3t hl with ⟨h,_⟩ | ⟨_,hr,e2⟩ | ⟨_,_,e2⟩
  ·exact absurd h hnl
  ·rw [e2];simp only [Y0,bne_self_eq_false,Y0p]
   by_cases hp:f.Period > 200
   ·rw [ZP hp];exact ⟨false,rfl,nofun⟩
   rw [ZQ hp,cond_false];have hcl:=Z3F (b:=23) hl.core
   have hol:=Z3F (b:=31) hl.odd
   have l1:(loopO (ZU.s0 f) 0 = some (.go ())∧∀ k l,f.Core[k]? = some l→(l ≠ []→-100≤fstT l∧lstT l≤100))∨(loopO (ZU.s0 f) 0 = some (.ret false)∧¬ ∀ k l,f.Core[k]? = some l→(l ≠ []→-100≤fstT l∧lstT l≤100)) :=
    Z2o (l:=f.Core) (step:=ZU.s0 f) (fun _ l => l ≠ []→-100≤fstT l∧lstT l≤100) (no:=.ret false) (yes:=.go ()) (fun k x hk _ => by
     obtain ⟨h1,h2⟩:=Z93 hk
     have hlx:=(hl.sets x (Y7 hk)).1
     unfold ZU.s0;rw [ZP h2,cond_true,h1];simp only [Y0];rw [Z9U hlx];simp only [Y0];rw [Z6 (by omega)]
     by_cases hx:x = []
     ·rw [if_pos hx];exact .inl ⟨rfl,fun h => absurd hx h⟩
     ·rw [if_neg hx];simp only [Y0q]
      by_cases hb:fstT x < -100∨lstT x > 100
      ·have:(decide (fstT x < -100) || decide (lstT x > 100)) = true:=by simpa using hb
       rw [this];exact .inr ⟨rfl,fun h => by have:=h hx;omega⟩
      ·have:(decide (fstT x < -100) || decide (lstT x > 100)) = false:=by simp;omega
       rw [this];exact .inl ⟨rfl,fun _ => by omega⟩) (by unfold ZU.s0;rw [ZQ (by omega)];rfl)
   rcases l1 with ⟨l1,l2⟩ | ⟨l1,_⟩
   ·rw [l1];simp only [Y0,Jx.elim];have m1:(loopO (ZU.s1 f) 0 = some (.go ())∧∀ (k:Nat) (g:Granule),f.Odd[k]? = some g→(-100≤g.Index∧g.Index≤100))∨(loopO (ZU.s1 f) 0 = some (.ret false)∧¬ ∀ (k:Nat) (g:Granule),f.Odd[k]? = some g→(-100≤g.Index∧g.Index≤100)) :=
     Z2o (l:=f.Odd) (step:=ZU.s1 f) (fun _ (g:Granule) => -100≤g.Index∧g.Index≤100) (no:=.ret false) (yes:=.go ()) (fun k x hk _ => by
      obtain ⟨h1,h2⟩:=Z93 hk
      unfold ZU.s1;rw [ZP h2,cond_true,h1];simp only [Y0];rw [Z6 (by omega)]
      by_cases hb:x.Index < -100∨x.Index > 100
      ·have:(decide (x.Index < -100) || decide (x.Index > 100)) = true:=by simpa using hb
       rw [this];exact .inr ⟨rfl,fun h => by omega⟩
      ·have:(decide (x.Index < -100) || decide (x.Index > 100)) = false:=by simp;omega
       rw [this];exact .inl ⟨rfl,by omega⟩) (by unfold ZU.s1;rw [ZQ (by omega)];rfl)
    rcases m1 with ⟨m1,m2⟩ | ⟨m1,_⟩
    ·rw [m1];refine ⟨true,rfl,fun _ => ⟨hl,hr,hsm,by omega,fun l hm => ?_,fun g hm => ?_⟩⟩
     ·obtain ⟨k,hk⟩:=YC hm;exact l2 k l hk
     ·obtain ⟨k,hk⟩:=YC hm;exact m2 k g hk
    ·rw [m1];exact ⟨false,rfl,nofun⟩
   ·rw [l1];exact ⟨false,rfl,nofun⟩
  ·rw [e2];exact ⟨false,rfl,nofun⟩
end Go.Dn

namespace Go.Dn
open Go
theorem w64_in (x:Int):In64 (w64 x):=by unfold w64 In64;rw [Z5O];omega
theorem has_found {l:List Span} {t:Int} (hl:Len l):∃ b,ZBo l t = some b∧(b = true→∃ s ∈ l,s.From≤t∧t≤s.To):=by
 have hlen:(l.length:Int) < 4611686018427387904:=by have:=Z1J;unfold Len at hl;omega
 obtain ⟨r,h1,p,rfl,hp⟩:=Z0Q (step:=Zk.s0 l t (fun z0 z1 => some (Z6w z0 z1)))
  (I:=fun s => ∃ i j:Nat,s = ((i:Int),(j:Int))∧i≤j∧j≤l.length)
  (fun s => (s.2 - s.1).toNat)
  (fun r => ∃ p:Nat,r = (p:Int)∧p≤l.length) (by
  rintro s ⟨i,j,rfl,hij,hj⟩;unfold Zk.s0
  by_cases hlt:i < j
  ·have hm:w64 ((IntKind.u64.wrap (w64 ((i:Int) + j))).fdiv (2 ^ 1)) = ((i + j) / 2:Nat):=by
    rw [Z6 (x:=(i:Int) + j) (by omega),Z4g,Y0E _ (by decide),Z6 (by omega)]
    omega
   have hml:(i + j) / 2 < l.length:=by omega
   simp only [hm];rw [ZP (show (i:Int) < j by omega),cond_true,at?_nat hml]
   simp only [Y0];refine .inl ?_
   by_cases hc:Z6w l[(i + j) / 2] t < 0
   ·rw [ZP hc];refine ⟨((((i + j) / 2 + 1:Nat):Int),(j:Int)),?_,⟨(i + j) / 2 + 1,j,rfl,by omega,hj⟩,by simp;omega⟩
    rw [Z6 (by omega)];simp
   ·rw [ZQ hc];exact ⟨((i:Int),(((i + j) / 2:Nat):Int)),by simp,⟨i,(i + j) / 2,rfl,by omega,by omega⟩,by simp;omega⟩
  ·exact .inr ⟨(i:Int),by rw [ZQ (show ¬ (i:Int) < j by omega)];rfl,i,rfl,by omega⟩) (0,(l.length:Int)) ⟨0,l.length,rfl,YM _,YB _⟩
 unfold ZBo Zk
 rw [h1]
 simp only [Y0]
 by_cases hlt:p < l.length
 ·rw [ZP (show (p:Int) < l.length by omega),cond_true,at?_nat hlt]
  simp only [Y0,Bool.and_true];refine ⟨_,rfl,fun h => ⟨l[p],YF hlt,?_⟩⟩
  simp only [Y9] at h;have h:=eq_of_beq h.1
  unfold Z6w at h
  by_cases q1:l[p].To < t
  ·rw [ZP q1] at h;simp at h
  ·by_cases q2:l[p].From > t
   ·rw [ZQ q1,ZP q2] at h;simp at h
   ·omega
 ·rw [ZQ (show ¬ (p:Int) < l.length by omega),cond_false]
  simp only [Y0,Bool.and_false];exact ⟨false,rfl,fun h => by cases h⟩
def Z9o (f:Form):Form:=Form.mk f.Period f.Count f.Core []
theorem bareF_lim {f:Form} (h:Lim f):Lim (Z9o f):=⟨h.core,h.sets,by simp [Z9o],by simp [Z9o],h.count,h.period⟩
theorem bareF_shape {f:Form} (h:Shape f):Shape (Z9o f):=⟨h.count,h.zero,h.per,h.core,by simp [Z9o],by intro j k a b _ hj;simp [Z9o] at hj⟩
theorem place_tot {f:Form} (hl:Lim f) (t:Int):∃ r,Zf f t = some r∧In64 r.1:=by
 have hlen:(f.Core.length:Int) < 4611686018427387904:=by have:=Z1J;have:=hl.core;omega
 obtain ⟨r,h1,h2⟩:=Z0Q (step:=Zf.s0 f t)
  (I:=fun s => (∃ k:Nat,s.2.2 = (k:Int)∧k≤f.Core.length)∧In64 s.1)
  (fun s => f.Core.length - s.2.2.toNat) (fun r => In64 r.1) (by
  rintro ⟨at',ok,idx⟩ ⟨⟨k,hk,hle⟩,hi⟩;simp only at hk hi;subst hk;unfold Zf.s0;simp only
  by_cases hlt:k < f.Core.length
  ·refine .inl ?_;rw [ZP (show (k:Int) < f.Core.length by omega),cond_true,at?_nat hlt]
   simp only [Y0];rw [Z9U (hl.sets _ (YF hlt)).1];simp only [Y0];have hw:w64 ((k:Int) + 1) = ((k + 1:Nat):Int):=by rw [Z6 (by omega)];push_cast;rfl
   by_cases hn:f.Core[k] = []
   ·rw [if_pos hn];exact ⟨_,rfl,⟨⟨k + 1,hw,hlt⟩,hi⟩,by simp only [hw];omega⟩
   ·rw [if_neg hn];simp only [YD,cond_false];unfold find_up_1;rw [Z3D (w64_in _) hl.period];simp only [Y0];rw [Z9k]
    split
    ·simp only [Y0,Jx.elim];exact ⟨_,rfl,⟨⟨k + 1,hw,hlt⟩,w64_in _⟩,by simp only [hw];omega⟩
    ·simp only [Y0,Jx.elim];exact ⟨_,rfl,⟨⟨k + 1,hw,hlt⟩,hi⟩,by simp only [hw];omega⟩
  ·refine .inr ⟨(at',ok),?_,hi⟩;rw [ZQ (show ¬ (k:Int) < f.Core.length by omega),cond_false]) (0,false,0) ⟨⟨0,rfl,YM _⟩,by unfold In64;simp⟩
 refine ⟨r,?_,h2⟩
 unfold Zf
 rw [h1]
 rfl
theorem plain_tot {f:Form} (hl:Lim f) (hs:Shape f) (t:Int):∃ r,ZE f t = some r∧(r.2 = true→ZD r.1):=by
 obtain ⟨x1,e1,i1⟩:=place_tot hl t
 unfold ZE
 rw [e1]
 simp only [Y0]
 cases hx:x1.2 with
 | false => exact ⟨(0,false),rfl,fun h => by cases h⟩
 | true =>
 simp only [YD,cond_false]
 have hlen:(f.Odd.length:Int) < 4611686018427387904:=by have:=Z1J;have:=hl.odd;omega
 obtain ⟨kv,e2,_⟩:=Z0Q (step:=ZE.s0 f)
  (I:=fun s => ∃ k:Nat,s.1 = (k:Int)∧k≤f.Odd.length)
  (fun s => f.Odd.length - s.1.toNat) (fun _ => True) (by
  rintro ⟨idx,kv⟩ ⟨k,hk,hle⟩;simp only at hk;subst hk;unfold ZE.s0;simp only
  by_cases hlt:k < f.Odd.length
  ·have hw:w64 ((k:Int) + 1) = ((k + 1:Nat):Int):=by rw [Z6 (by omega)];push_cast;rfl
   rw [ZP (show (k:Int) < f.Odd.length by omega),cond_true,at?_nat hlt]
   simp only [Y0];exact .inl ⟨_,rfl,⟨k + 1,hw,hlt⟩,by simp only [hw];omega⟩
  ·exact .inr ⟨kv,by rw [ZQ (show ¬ (k:Int) < f.Odd.length by omega),cond_false],trivial⟩) (0,[]) ⟨0,rfl,YM _⟩
 rw [e2]
 simp only [Y0]
 have bl:=bareF_lim hl
 have bs:=bareF_shape hs
 obtain ⟨x3,e3,a3⟩:=Z3R bl bs (i:=w64 (x1.1 - 1)) (w64_in _)
 rw [show Form.mk f.Period f.Count f.Core [] = Z9o f from rfl,e3]
 simp only [Y0]
 have tickA:∀ {i:Int} {r:Int × Bool},Above (Z9o f) i r→r.2 = true→i < r.1∧ZD r.1:=fun h hr => ⟨(h.tick hr).1,(h.tick hr).2.1⟩
 obtain ⟨y,e4,h4⟩:=Z0Q (step:=ZE.s1 f kv)
  (I:=fun s => (s.2.1 = true→ZD s.1)∧0≤s.2.2∧s.2.2≤2)
  (fun s => if s.2.1 = true then (1099511627777 - s.1).toNat + 1 else 0)
  (fun y => ∀ r,y = .ret r→r.2 = true→ZD r.1) (by
  rintro ⟨i,ok,by_⟩ ⟨hi,hb0,hb2⟩;simp only at hi hb0 hb2;unfold ZE.s1;simp only;rw [show Form.mk f.Period f.Count f.Core [] = Z9o f from rfl]
  by_cases hc:ok = true∧by_ < 2
  ·obtain ⟨rfl,hb⟩:=hc
   have ti:=hi rfl
   rw [ZP hb];simp only [Y04,cond_true];obtain ⟨x5,e5,a5⟩:=Z3R bl bs (i:=i) (Z2x ti)
   have go:∀ b':Int,0≤b'→b'≤2→∃ s':Int × Bool × Int,(some (Sum.inl (x5.1,x5.2,b')):Option ((Int × Bool × Int) ⊕ Jx Unit (Int × Bool))) = some (.inl s')∧((s'.2.1 = true→ZD s'.1)∧0≤s'.2.2∧s'.2.2≤2) ∧
     (if s'.2.1 = true then (1099511627777 - s'.1).toNat + 1 else 0) < (1099511627777 - i).toNat + 1:=fun b' q1 q2 => by
    refine ⟨_,rfl,⟨fun h => (tickA a5 h).2,q1,q2⟩,?_⟩
    simp only
    split
    ·rename_i h;have:=tickA a5 h
     have t2:=this.2
     unfold ZD at t2 ti;omega
    ·omega
   obtain ⟨g,hg⟩ : ∃ g,Z0c (Z9o f) i = some g:=⟨_,Z5d bl bs (Z2x ti)⟩
   rw [hg];simp only [Y0,if_true];have hwb:w64 (by_ + 1) = by_ + 1:=Z6 (by omega)
   rw [hwb];cases hgc:(g.2 != 0) with
   | true =>
    simp only [cond_true,Y0,Jx.elim];rw [e5];simp only [Y0];exact .inl (go _ (by omega) (by omega))
   | false =>
    simp only [cond_false];cases hm:(mget kv i == 0) with
    | true =>
     simp only [cond_true,Y0,Jx.elim];exact .inr ⟨_,rfl,fun r hr _ => by cases hr;exact ti⟩
    | false =>
     simp only [cond_false,Y0,Jx.elim];rw [e5];simp only [Y0];exact .inl (go _ hb0 hb2)
  ·have:(ok && decide (by_ < 2)) = false:=by
    cases ok with
    | false => rfl
    | true => rw [ZQ (fun h => hc ⟨rfl,h⟩)];rfl
   rw [this,cond_false];exact .inr ⟨_,rfl,fun r hr => by cases hr⟩) (x3.1,x3.2,0) ⟨fun h => (tickA a3 h).2,by simp,by simp⟩
 rw [e4]
 simp only [Y0]
 cases y with
 | ret r => exact ⟨r,rfl,h4 r rfl⟩
 | go u => exact ⟨(0,false),rfl,fun h => by cases h⟩
theorem nearest_tot {f:Form} (hl:Lim f) (hs:Shape f) (t:Int):∃ r,Zb f t = some r∧(r.2 = true→ZD r.1):=by
 obtain ⟨x1,e1,i1⟩:=plain_tot hl hs (iMax (iMin t 1099511627777) (-1099511627777))
 have hlen:(f.Odd.length:Int) < 4611686018427387904:=by have:=Z1J;have:=hl.odd;omega
 obtain ⟨r,e2,h2⟩:=Z0Q (step:=Zb.s0 f t)
  (I:=fun s => (∃ k:Nat,s.2.2 = (k:Int)∧k≤f.Odd.length)∧(s.2.1 = true→ZD s.1))
  (fun s => f.Odd.length - s.2.2.toNat) (fun r => r.2 = true→ZD r.1) (by
  rintro ⟨i,ok,idx⟩ ⟨⟨k,hk,hle⟩,hi⟩;simp only at hk hi;subst hk;unfold Zb.s0;simp only
  by_cases hlt:k < f.Odd.length
  ·have hw:w64 ((k:Int) + 1) = ((k + 1:Nat):Int):=by rw [Z6 (by omega)];push_cast;rfl
   have hm:f.Odd[k] ∈ f.Odd:=YF hlt
   rw [ZP (show (k:Int) < f.Odd.length by omega),cond_true,at?_nat hlt]
   simp only [Y0];obtain ⟨g,hg⟩ : ∃ g,Z1I f.Odd[k].Ticks = some g:=⟨_,Z9U (hl.ticks _ hm).2.1⟩
   rw [hg];simp only [Y0];refine .inl ?_;rw [Z9k]
   split
   ·simp only [Y0];exact ⟨_,rfl,⟨⟨k + 1,hw,hlt⟩,fun _ => (hs.odd _ hm).2⟩,by simp only [hw];omega⟩
   ·simp only [Y0];exact ⟨_,rfl,⟨⟨k + 1,hw,hlt⟩,hi⟩,by simp only [hw];omega⟩
  ·exact .inr ⟨(i,ok),by rw [ZQ (show ¬ (k:Int) < f.Odd.length by omega),cond_false],hi⟩) (x1.1,x1.2,0) ⟨⟨0,rfl,YM _⟩,i1⟩
 refine ⟨r,?_,h2⟩
 unfold Zb
 rw [e1]
 simp only [Y0]
 rw [e2]
 rfl
def Bears (f:Form) (i t:Int):Prop:=ZD i∧fits f i∧∃ s ∈ ZJ f i,s.From≤t∧t≤s.To
theorem ZDN {f:Form} (hl:Lim f) (hs:Shape f) (t:Int):∃ r,Z9V f t = some r∧(r.2 = true→Bears f r.1 t)∧(r.2 = false→r.1 = 0):=by
 obtain ⟨x1,e1,i1⟩:=nearest_tot hl hs t
 unfold Z9V find_From
 rw [e1]
 simp only [Y0]
 cases hx:x1.2 with
 | false => exact ⟨(0,false),rfl,(fun h => by cases h),fun _ => rfl⟩
 | true =>
 have ti:=i1 hx
 simp only [YD,cond_false]
 rw [Z5d hl hs (Z2x ti)]
 simp only [Y0]
 by_cases hf:ZD x1.1∧fits f x1.1
 ·rw [if_pos hf];obtain ⟨b,e2,h2⟩:=has_found (l:=ZJ f x1.1) (t:=t) (Z9M hl hs _)
  rw [e2];simp only [Y0];cases b with
  | false => exact ⟨(0,false),rfl,(fun h => by cases h),fun _ => rfl⟩
  | true => exact ⟨(x1.1,true),rfl,fun _ => ⟨hf.1,hf.2,h2 rfl⟩,(fun h => by cases h)⟩
 ·rw [if_neg hf];obtain ⟨b,e2,h2⟩:=has_found (l:=[]) (t:=t) (by unfold Len;simp)
  rw [e2];simp only [Y0];cases b with
  | false => exact ⟨(0,false),rfl,(fun h => by cases h),fun _ => rfl⟩
  | true => obtain ⟨s,hs,_⟩:=h2 rfl;cases hs
theorem distance_eq {f:Form} (hl:Lim f) (hs:Shape f) (a b:Int):∃ x y,Z9V f a = some x∧Z9V f b = some y∧(x.2 = true→Bears f x.1 a)∧(y.2 = true→Bears f y.1 b) ∧
  Z13 f a b = some (if x.2 = true∧y.2 = true then (y.1 - x.1,true) else (0,false)):=by
 obtain ⟨x,e1,h1,_⟩:=ZDN hl hs a
 obtain ⟨y,e2,h2,_⟩:=ZDN hl hs b
 refine ⟨x,y,e1,e2,h1,h2,?_⟩
 unfold Z13
 rw [e1]
 simp only [Y0]
 cases hx:x.2 with
 | false => simp
 | true =>
 simp only [YD,cond_false]
 rw [e2]
 simp only [Y0]
 cases hy:y.2 with
 | false => simp
 | true =>
  have tx:=(h1 hx).1
  have ty:=(h2 hy).1
  unfold ZD at tx ty;rw [Z6 (by omega)]
  simp
theorem Bears.ends {f:Form} (hs:Shape f) {i t:Int} (h:Bears f i t):ZJ f i ≠ []∧fstT (ZJ f i)≤t∧t≤lstT (ZJ f i)∧ZD t:=by
 obtain ⟨h1,h2,s,h3,h4,h5⟩:=h
 have hr:=Z6s hs h2
 have hn:ZJ f i ≠ []:=fun e => by rw [e] at h3;cases h3
 obtain ⟨k,hk,he⟩:=Y0G h3
 have hlt:=hk
 have key:fstT (ZJ f i)≤s.From∧s.To≤lstT (ZJ f i):=by
  have h0:∀ (l:List Span),RightL l→∀ (s:Span),s ∈ l→fstT l≤s.From∧s.To≤lstT l:=by
   intro l
   induction l with
   | nil => intro _ s hs;cases hs
   | cons a l ih =>
    intro hr s hs;have ha:=hr.ok 0 a rfl
    have e1:fstT (a :: l) = a.From:=rfl
    cases l with
    | nil =>
     rw [YO] at hs;subst hs;exact ⟨by rw [e1];omega,by show s.To≤s.To;omega⟩
    | cons b l =>
     have hg:=hr.gap 0 a b rfl rfl
     have e2:lstT (a :: b :: l) = lstT (b :: l):=by unfold lstT;rw [List.getLast?_cons_cons]
     have hrt:=hr.tail
     rcases List.mem_cons.1 hs with rfl | hs
     ·have:=ih hrt b (by simp)
      have hb:=hrt.ok 0 b rfl
      refine ⟨by rw [e1];omega,by rw [e2];omega⟩
     ·have:=ih hrt s hs
      have e3:fstT (b :: l) = b.From:=rfl
      rw [e3] at this;refine ⟨by rw [e1];omega,by rw [e2];exact this.2⟩
  exact h0 _ hr s h3
 have hl:=Z5e hr hn
 unfold ZD at *
 exact ⟨hn,by omega,by omega,by omega⟩
end Go.Dn

namespace Go.Dn
open Go
section
variable {f:Form} {i k x y:Int}
theorem pair_dn (hs:Shape f) (hx:Bears f i x) (hy:Bears f k y):Z1C f false (y - x) i k:=by
 obtain ⟨a1,a2,a3,_⟩:=hx.ends hs
 obtain ⟨b1,b2,b3,_⟩:=hy.ends hs
 refine ⟨a1,b1,?_⟩
 simp only [Y6,if_false]
 omega
theorem pair_up (hs:Shape f) (hx:Bears f i x) (hy:Bears f k y):Z1C f true (y - x) i k:=by
 obtain ⟨a1,a2,a3,_⟩:=hx.ends hs
 obtain ⟨b1,b2,b3,_⟩:=hy.ends hs
 refine ⟨a1,b1,?_⟩
 simp only [if_true]
 omega
theorem low_sound {m d:Int} (hs:Shape f) (hx:Bears f i x) (hy:Bears f k y) (hd:LowD f (farI m) d) (hm:m≤k - i):d = -1099511627776∨d≤y - x:=by
 by_cases h1:d = -1099511627776
 ·exact .inl h1
 ·right
  apply Classical.byContradiction;intro hn;have ti:=hx.1
  have tk:=hy.1
  unfold ZD at ti tk;have near:Near f (farI m) (y - x):=⟨i,k,pair_dn hs hx hy,by unfold farI;omega⟩
  have:=hd.1
  exact hd.2.2.1 (max (y - x) (-1099511627776)) (by omega) (by omega) (near.mono (Yb _) (by omega))
theorem ticks_eq (hl:Lim f) (hr:RightF f) (hsm:Z8f f) {r:Range} (ho:r.ok):∃ lo hi,Z1f f r = some (lo,hi) ∧
  (lo = ⟨-1,0⟩∧r.HasLow = false∨∃ d,lo = boundD d∧LowD f (farI r.Low) d∧r.HasLow = true) ∧
  (hi = ⟨1,0⟩∧r.HasHigh = false∨∃ d,hi = ZC3 d∧LowD f (farI (-(max r.High (-4611686018427387904)))) d∧r.HasHigh = true):=by
 obtain ⟨d1,e1,l1⟩:=ZB4 hl hr hsm.few r.Low
 obtain ⟨d2,e2,l2⟩:=carry_High_eq hl hr hsm.few (n:=r.High) (by have:=ho.2.1;rw [ZAq] at this;exact this)
 unfold Z1f
 rw [e1,e2]
 simp only [Y0]
 cases h1:r.HasLow <;> cases h2:r.HasHigh <;> simp only [cond_true,cond_false,Y0]
 ·exact ⟨_,_,rfl,.inl ⟨rfl,trivial⟩,.inl ⟨rfl,trivial⟩⟩
 ·exact ⟨_,_,rfl,.inl ⟨rfl,trivial⟩,.inr ⟨d2,rfl,l2,trivial⟩⟩
 ·exact ⟨_,_,rfl,.inr ⟨d1,rfl,l1,trivial⟩,.inl ⟨rfl,trivial⟩⟩
 ·exact ⟨_,_,rfl,.inr ⟨d1,rfl,l1,trivial⟩,.inr ⟨d2,rfl,l2,trivial⟩⟩
theorem range_sound (hl:Lim f) (hr:RightF f) (hsm:Z8f f) {low high:Bound} (hb:bad low high = false) (hx:Bears f i x) (hy:Bears f k y) (h1:low.Inf = 0→low.N≤y - x) (h2:high.Inf = 0→y - x≤high.N) :
  ∃ rr,Z0g f low high = some (rr,true,0)∧Z1k rr (k - i) = true:=by
 obtain ⟨rr,ok,e,s⟩:=Z91 hl hr hsm.few hb
 have pd:=pair_dn hr.shape hx hy
 have pu:=pair_up hr.shape hx hy
 cases ok with
 | false =>
  exfalso
  rcases s.not rfl with ⟨q1,q2,q3⟩ | ⟨q1,q2,q3⟩
  ·exact q3 i k (ZC2 pd (by have:=h2 q1;omega))
  ·exact q3 i k (up_mono pu (by have:=h1 q1;omega))
 | true =>
  refine ⟨rr,e,?_⟩;unfold Z1k;simp only [Y9,Ym,YP,decide_eq_true_eq];refine ⟨?_,?_⟩
  ·cases hh:rr.HasLow with
   | false => exact .inl rfl
   | true =>
    obtain ⟨q1,q2⟩:=(s.lo rfl).1 hh
    exact .inr (((s.atL rfl hh).yes rfl).2 i k (up_mono pu (by have:=h1 q1;omega)))
  ·cases hh:rr.HasHigh with
   | false => exact .inl rfl
   | true =>
    obtain ⟨q1,q2⟩:=(s.hi rfl).1 hh
    exact .inr (((s.atH rfl hh).yes rfl).2 i k (ZC2 pd (by have:=h2 q1;omega)))
end
end Go.Dn

namespace Go.Dn
open Go
end Go.Dn

namespace Go.Dn
open Go
theorem ZDu {α:Type} {l:List α} {p:α→Bool} {step:Int→Option (Int ⊕ Jx Unit Int)} (hl:(l.length:Int) < 4611686018427387904)
  (hstep:∀ (k:Nat) (hk:k < l.length),step (k:Int) = if p l[k] = true then some (.inr (.ret (k:Int))) else some (.inl (w64 ((k:Int) + 1)))) (hend:step (l.length:Int) = some (.inr (.go ()))) :
  (loopO step 0 = some (.go ())∧∀ x ∈ l,p x = false)∨(∃ k:Nat,loopO step 0 = some (.ret (k:Int))∧∃ x ∈ l,p x = true):=by
 obtain ⟨r,h1,h2⟩:=Z0Q (step:=step) (I:=fun s => ∃ k:Nat,s = (k:Int)∧k≤l.length∧∀ j (hj:j < l.length),j < k→p l[j] = false) (fun s => l.length - s.toNat)
  (fun r => (r = .go ()∧∀ x ∈ l,p x = false)∨∃ k:Nat,r = .ret (k:Int)∧∃ x ∈ l,p x = true) (by
  rintro s ⟨k,rfl,hk,hj⟩
  by_cases hlt:k < l.length
  ·rw [hstep k hlt]
   by_cases hp:p l[k] = true
   ·rw [if_pos hp];exact .inr ⟨_,rfl,.inr ⟨k,rfl,_,YF hlt,hp⟩⟩
   ·rw [if_neg hp];refine .inl ⟨_,rfl,⟨k + 1,by rw [Z6 (by omega)];push_cast;rfl,hlt,fun j hjl hjk => ?_⟩,by rw [Z6 (by omega)];omega⟩
    rcases YI j k with h | h
    ·exact hj j hjl h
    ·have:j = k:=by omega
     subst this
     simpa using hp
  ·have:k = l.length:=by omega
   subst this;refine .inr ⟨_,hend,.inl ⟨rfl,fun x hx => ?_⟩⟩
   obtain ⟨j,hjl,rfl⟩:=Y0G hx
   exact hj j hjl hjl) 0 ⟨0,rfl,YM _,fun j _ h => by omega⟩
 rcases h2 with ⟨rfl,h⟩ | ⟨k,rfl,h⟩
 ·exact .inl ⟨h1,h⟩
 ·exact .inr ⟨k,h1,h⟩
theorem Z5h {l:List Form} {f:Form→Option Bool} {p:Form→Bool} (hl:(l.length:Int) < 4611686018427387904) (hf:∀ x ∈ l,f x = some (p x)):∃ b,Zr l f = some b∧(b = true ↔ ∃ x ∈ l,p x = true):=by
 unfold Zr ZN
 rcases ZDu (l:=l) (p:=p) (step:=ZN.s0 l f) hl (fun k hk => by
  unfold ZN.s0;rw [ZP (show (k:Int) < l.length by omega),cond_true,at?_nat hk]
  simp only [Y0];rw [hf _ (YF hk)];simp only [Y0,Z9k]) (by
  unfold ZN.s0;rw [ZQ (by omega),cond_false]) with ⟨e,h⟩ | ⟨k,e,h⟩
 ·rw [e];refine ⟨false,rfl,?_⟩;simp only [Y6,false_iff,not_exists,not_and,Yy];exact h
 ·rw [e];simp only [Y0,Jx.elim];exact ⟨true,by rw [ZP (show (k:Int) ≥ 0 by omega)],by simpa using h⟩
theorem Z6U {l:List Con} {f:Con→Option Bool} {p:Con→Bool} (hl:(l.length:Int) < 4611686018427387904) (hf:∀ x ∈ l,f x = some (p x)):∃ b,Z01 l f = some b∧(b = true ↔ ∃ x ∈ l,p x = true):=by
 unfold Z01 ZR
 rcases ZDu (l:=l) (p:=p) (step:=ZR.s0 l f) hl (fun k hk => by
  unfold ZR.s0;rw [ZP (show (k:Int) < l.length by omega),cond_true,at?_nat hk]
  simp only [Y0];rw [hf _ (YF hk)];simp only [Y0,Z9k]) (by
  unfold ZR.s0;rw [ZQ (by omega),cond_false]) with ⟨e,h⟩ | ⟨k,e,h⟩
 ·rw [e];refine ⟨false,rfl,?_⟩;simp only [Y6,false_iff,not_exists,not_and,Yy];exact h
 ·rw [e];simp only [Y0,Jx.elim];exact ⟨true,by rw [ZP (show (k:Int) ≥ 0 by omega)],by simpa using h⟩
structure RightN (n:Net):Prop where
 vars:0≤n.Vars∧n.Vars≤24
 forms:∀ f ∈ n.Forms,Lim f∧RightF f
 cons:∀ c ∈ n.Cons,(0≤c.X∧c.X < n.Vars)∧(0≤c.Y∧c.Y < n.Vars)∧(0≤c.Form∧c.Form < n.Forms.length)
 few:n.Cons.length≤200
theorem Z2O {i m:Int}:Z0Y i m = true ↔ 0≤i∧i < m:=by
 unfold Z0Y
 simp
theorem net_lim {n:Net} (h:n.ok):(∀ f ∈ n.Forms,Lim f)∧(n.Forms.length:Int) < 4611686018427387904∧(n.Cons.length:Int) < 4611686018427387904:=by
 obtain ⟨_,h2,h3⟩:=h
 refine ⟨fun f hf => Form.lim (h2.2 f hf),?_,?_⟩
 ·have:=h2.1;have:=Z1J;omega
 ·have:=h3.1;have:=Z1J;omega
theorem tag_Right_eq {n:Net} (hn:n.ok):∃ e,Z1Z n = some e∧(e = 0→RightN n):=by
 obtain ⟨hf,l1,l2⟩:=net_lim hn
 unfold Z1Z
 cases c1:Z0Y n.Vars 25 with
 | false => exact ⟨230,rfl,fun h => absurd h (by decide)⟩
 | true =>
 simp only [YD,cond_false]
 cases c2:decide ((n.Forms.length:Int) > 20) with
 | true => exact ⟨230,rfl,fun h => absurd h (by decide)⟩
 | false =>
 simp only [cond_false,Y0]
 cases c3:decide ((n.Cons.length:Int) > 200) with
 | true => exact ⟨230,rfl,fun h => absurd h (by decide)⟩
 | false =>
 simp only [cond_false]
 have hfr:∀ f ∈ n.Forms,Z19 f = some ((Zo f).getD 0 != 0):=fun f hm => by
  unfold Z19
  rcases Z3t (hf f hm) with ⟨q,h⟩ | ⟨q,r,h⟩ | ⟨q,r,h⟩ <;> rw [h] <;> rfl
 obtain ⟨b1,e1,i1⟩:=Z5h (l:=n.Forms) (f:=fun z0 => Z19 z0) (p:=fun f => (Zo f).getD 0 != 0) l1 hfr
 obtain ⟨b2,e2,i2⟩:=Z6U (l:=n.Cons) (f:=fun z0 => some (Z0n z0 n)) (p:=fun c => Z0n c n) l2 (fun _ _ => rfl)
 rw [e1]
 simp only [Y0]
 cases b1 with
 | true => exact ⟨230,rfl,fun h => absurd h (by decide)⟩
 | false =>
 simp only [cond_false]
 rw [e2]
 simp only [Y0]
 cases b2 with
 | true => exact ⟨230,rfl,fun h => absurd h (by decide)⟩
 | false =>
 refine ⟨0,rfl,fun _ => ?_⟩
 have v:=Z2O.1 c1
 refine ⟨by omega,fun f hm => ⟨hf f hm,?_⟩,fun c hm => ?_,by have:=of_decide_eq_false c3;omega⟩
 ·apply Classical.byContradiction;intro hnr;have:(false:Bool) = true:=i1.2 ⟨f,hm,by
   rcases Z3t (hf f hm) with ⟨q,h⟩ | ⟨q,r,h⟩ | ⟨q,r,h⟩
   ·rw [h];rfl
   ·exact absurd r hnr
   ·rw [h];rfl⟩
  cases this
 ·cases hc:Z0n c n with
  | true => have:=i2.2 ⟨c,hm,hc⟩;cases this
  | false =>
   unfold Z0n Z3d at hc;simp only [Bool.not_eq_false',Y9] at hc;exact ⟨Z2O.1 hc.1.1.1,Z2O.1 hc.1.1.2,Z2O.1 hc.1.2⟩
theorem few_eq {n:Net} (hn:n.ok):∃ b,Zv n = some b∧(b = true→RightN n∧n.Cons.length≤8∧n.Vars≤8):=by
 obtain ⟨hf,l1,l2⟩:=net_lim hn
 unfold Zv
 cases c1:((decide ((n.Forms.length:Int) > 4) || decide ((n.Cons.length:Int) > 8)) || decide (n.Vars > 8)) with
 | true => exact ⟨false,rfl,nofun⟩
 | false =>
 simp only [Bool.or_eq_false_iff,decide_eq_false_iff_not] at c1
 simp only [cond_false]
 obtain ⟨r,e1,_⟩:=Z0Q (step:=Zv.s0 n) (I:=fun s => ∃ k:Nat,s = (k:Int)∧k≤n.Forms.length) (fun s => n.Forms.length - s.toNat) (fun r => r = .go ()∨r = .ret false) (by
  rintro s ⟨k,rfl,hk⟩;unfold Zv.s0
  by_cases hlt:k < n.Forms.length
  ·rw [ZP (show (k:Int) < n.Forms.length by omega),cond_true,at?_nat hlt]
   simp only [Y0];obtain ⟨b,e,_⟩:=ZBe (hf _ (YF hlt))
   rw [e];simp only [Y0];cases b with
   | false => exact .inr ⟨_,rfl,.inr rfl⟩
   | true => exact .inl ⟨_,rfl,⟨k + 1,by rw [Z6 (by omega)];push_cast;rfl,hlt⟩,by rw [Z6 (by omega)];omega⟩
  ·rw [ZQ (show ¬ (k:Int) < n.Forms.length by omega),cond_false]
   exact .inr ⟨_,rfl,.inl rfl⟩) 0 ⟨0,rfl,YM _⟩
 rw [e1]
 simp only [Y0]
 rename_i hr
 rcases hr with rfl | rfl
 ·simp only [Jx.elim];obtain ⟨e,e2,h2⟩:=tag_Right_eq hn
  rw [e2];simp only [Y0];refine ⟨_,rfl,fun h => ⟨h2 (eq_of_beq h),?_,?_⟩⟩ <;> omega
 ·exact ⟨false,rfl,nofun⟩
def badFrom (m:Con→Bool):List Con→Nat→List Int
 | [],_ => []
 | c :: l,j => if m c = true then badFrom m l (j + 1) else (j:Int) :: badFrom m l (j + 1)
section
variable {n:Net} {ts:List Int} {m:Con→Bool}
noncomputable def metB (n:Net) (ts:List Int) (c:Con):Bool:=(tag_met n c ts).getD false
end
noncomputable def partsRest (n:Net) (cut:Int) (x6:List Int):Option Bool :=
   (nz? (w64 ((n.Cons.length:Int) + 1))).bind fun u1 =>
   (cut? n.Cons 0 ((w64 cut).tmod (w64 ((n.Cons.length:Int) + 1)))).bind fun x7 =>
   (cut? n.Cons ((w64 cut).tmod (w64 ((n.Cons.length:Int) + 1))) (n.Cons.length:Int)).bind fun x8 =>
   (Z2p (Net.mk n.Vars n.Forms x7) x6).bind fun x9 =>
   (Z2p (Net.mk n.Vars n.Forms x8) x6).bind fun x10 =>
   (Z2p n x6).bind fun x11 =>
   (bif ((x9.2 != x10.2) || (x9.2 != x11.2)) then
    some false
   else
    (loopO (Z0u.s1 n cut x10) (0,x9.1)).bind fun (y2:(List Int)) =>
    (Z36 y2 x11.1).bind fun x14 =>
    (
     (bif x14 then
      (Z1l n x6).bind fun x15 =>
      some (x15 == ((x9.2 == 0) && ((x11.1.length:Int) == 0)))
     else
      some false)).bind fun (y3:Bool) =>
    (
     (bif y3 then
      (Z1l n x6).bind fun x16 =>
      (Z1l (Net.mk n.Vars n.Forms x7) x6).bind fun x17 =>
      (
       (bif x17 then
        (Z1l (Net.mk n.Vars n.Forms x8) x6).bind fun x18 =>
        some x18
       else
        some false)).bind fun (y5:Bool) =>
      some (x16 == y5)
     else
      some false)).bind fun (y4:Bool) =>
    some (y4 && Z24))
end Go.Dn

namespace Go.Dn
open Go
def bd:Option Int→Bound
 | none => ⟨1,0⟩
 | some k => ⟨0,k⟩
def ole (a b:Option Int):Prop:=match b with
 | none => True
 | some k => match a with
  | none => False
  | some l => l≤k
def oadd (a b:Option Int):Option Int:=match a,b with
 | some x,some y => some (x + y)
 | _,_ => none
def omin (a b:Option Int):Option Int:=match a,b with
 | none,b => b
 | a,none => a
 | some x,some y => some (if x < y then x else y)
def olt (a b:Option Int):Bool:=match a,b with
 | none,_ => false
 | some _,none => true
 | some x,some y => decide (x < y)
def inB (B:Int) (a:Option Int):Prop:=match a with
 | none => True
 | some x => -B≤x∧x≤B
theorem Z5P (a:Option Int):ole a a:=by cases a <;> simp [ole]
theorem Z67 {a b c:Option Int} (h1:ole a b) (h2:ole b c):ole a c:=by
 cases a <;> cases b <;> cases c <;> simp [ole] at * <;> omega
theorem ZBG {a b c d:Option Int} (h1:ole a c) (h2:ole b d):ole (oadd a b) (oadd c d):=by
 cases a <;> cases b <;> cases c <;> cases d <;> simp [ole,oadd] at * <;> omega
theorem ole_min {a b c:Option Int} (h1:ole c a) (h2:ole c b):ole c (omin a b):=by
 cases a <;> cases b <;> cases c <;> simp [ole,omin] at * <;> (try split) <;> omega
theorem omin_l (a b:Option Int):ole (omin a b) a:=by
 cases a <;> cases b <;> simp [ole,omin] <;> (try split) <;> omega
theorem omin_r (a b:Option Int):ole (omin a b) b:=by
 cases a <;> cases b <;> simp [ole,omin] <;> (try split) <;> omega
theorem omin_or (a b:Option Int):omin a b = a∨omin a b = b:=by
 cases a <;> cases b <;> simp [omin] <;> omega
theorem ZBS (a b:Option Int):omin a b = if olt a b = true then a else b:=by
 cases a <;> cases b <;> simp [omin,olt]
 split <;> rfl
theorem omin_self {a b:Option Int} (h:ole a b):omin a b = a:=by
 cases a <;> cases b <;> simp [omin,ole] at * <;> omega
theorem oadd_zero (a:Option Int):oadd a (some 0) = a:=by cases a <;> simp [oadd]
theorem zero_oadd (a:Option Int):oadd (some 0) a = a:=by cases a <;> simp [oadd]
theorem Z8D (a b c:Option Int):oadd (oadd a b) c = oadd a (oadd b c):=by
 cases a <;> cases b <;> cases c <;> simp [oadd,Int.add_assoc]
theorem inB_add {B:Int} {a b:Option Int} (h1:inB B a) (h2:inB B b):inB (2 * B) (oadd a b):=by
 cases a <;> cases b <;> simp [inB,oadd] at * <;> omega
theorem ZAk {B C:Int} {a:Option Int} (h:inB B a) (hc:B≤C):inB C a:=by
 cases a <;> simp [inB] at * <;> omega
theorem inB_min {B:Int} {a b:Option Int} (h1:inB B a) (h2:inB B b):inB B (omin a b):=by
 rcases omin_or a b with h | h <;> rw [h] <;> assumption
theorem less_bd (a b:Option Int):Z0K (bd a) (bd b) = olt a b:=by
 cases a with
 | none => cases b <;> simp [bd,olt,Z0K,ZF]
 | some x =>
  cases b with
  | none => simp [bd,olt,Z0K,ZF]
  | some y => rfl
theorem sum_bd {a b:Option Int} {B:Int} (hB:B≤2305843009213693952) (h1:inB B a) (h2:inB B b):Z0I (bd a) (bd b) = (bd (oadd a b),0):=by
 cases a with
 | none => cases b <;> simp [bd,oadd,Z0I,ZF]
 | some x =>
  cases b with
  | none => simp [bd,oadd,Z0I,ZF]
  | some y =>
   simp only [inB] at h1 h2;have e:Zd x y = (x + y,0):=by
    rw [Z8h (by unfold In64;omega) (by unfold In64;omega),fitS_of (by unfold In64;omega)]
   simp [bd,oadd,Z0I,ZF,e]
theorem less_zero (a:Option Int):Z0K (bd a) (Bound.mk 0 0) = olt a (some 0):=less_bd a (some 0)
theorem may_bd {a:Option Int} (h:inB 1125899906842624 a):Z7j (bd a) = true:=by
 cases a with
 | none => rfl
 | some x =>
  simp only [inB] at h;unfold Z7j bd;simp only [];rw [ZP (p:=x ≥ _) (by omega),ZP (p:=x≤_) (by omega)]
  rfl
theorem subF {a b:Int} (ha:In64 a) (hb:In64 b):Z11 a b = fitS (a - b):=by
 unfold In64 at ha hb
 unfold Z11 fitS w64
 rw [Z5O]
 cases h:((decide ((a - b + 9223372036854775808) % 18446744073709551616 - 9223372036854775808 < a) != decide (b > 0)) && b != 0)
 ·rw [cond_false];simp only [Y0U,bne_eq_false_iff_eq,decide_eq_decide] at h
  split <;> simp only [Y3,and_true] <;> omega
 ·rw [cond_true];simp only [Y9,bne_iff_ne,ne_eq,decide_eq_decide] at h
  split <;> simp only [Y3] <;> omega
def rowM (n:Nat) (M:Nat→Nat→Option Int) (i:Nat):List Bound:=(List.range n).map fun j => bd (M i j)
def Mat (n:Nat) (M:Nat→Nat→Option Int):List (List Bound):=(List.range n).map fun i => rowM n M i
def updM (M:Nat→Nat→Option Int) (i j:Nat) (v:Option Int):Nat→Nat→Option Int:=fun a b => if a = i∧b = j then v else M a b
section
variable {n:Nat} {M A:Nat→Nat→Option Int}
theorem Z65:(Mat n M).length = n:=by simp [Mat]
theorem Z9H {i:Nat}:(rowM n M i).length = n:=by simp [rowM]
theorem Z72 {i:Nat} (h:i < n):at? (Mat n M) (i:Int) = some (rowM n M i):=by
 rw [at?_nat (by rw [Z65];exact h)];simp [Mat]
theorem Z5V {i j:Nat} (h:j < n):at? (rowM n M i) (j:Int) = some (bd (M i j)):=by
 rw [at?_nat (by rw [Z9H];exact h)];simp [rowM]
theorem Z69 (h:∀ i j,i < n→j < n→M i j = A i j):Mat n M = Mat n A:=by
 unfold Mat rowM
 apply List.map_congr_left
 intro i hi
 apply List.map_congr_left
 intro j hj
 rw [h i j (by simpa using hi) (by simpa using hj)]
theorem Mat_set {i j:Nat} (v:Option Int):(Mat n M).set i ((rowM n M i).set j (bd v)) = Mat n (updM M i j v):=by
 apply List.ext_getElem
 ·simp [Mat]
 ·intro a h1 h2;have ha:a < n:=by simpa [Mat] using h2
  rw [List.getElem_set]
  by_cases hai:i = a
  ·subst hai;rw [if_pos rfl];apply List.ext_getElem
   ·simp [Mat,rowM]
   ·intro b g1 g2;rw [List.getElem_set]
    by_cases hbj:j = b
    ·subst hbj;simp [Mat,rowM,updM]
    ·rw [if_neg hbj];simp [Mat,rowM,updM,Ne.symm hbj]
  ·rw [if_neg hai];simp [Mat,rowM,updM,Ne.symm hai]
theorem Mat_set' {i j:Nat} (v:Option Int):(Mat n M).set ((i:Int)).toNat ((rowM n M i).set ((j:Int)).toNat (bd v)) = Mat n (updM M i j v):=Mat_set v
end
theorem repeat_eq {n:Nat} (h1:1≤n) (h2:n≤24) (a:Bound):ZO [a] (n:Int) = some (List.replicate n a):=by
 have hmul:ZY (IntKind.u64.wrap (([a] : List Bound).length:Int)) (IntKind.u64.wrap (n:Int)) = (0,(n:Int)):=by
  have e1:IntKind.u64.wrap (([a] : List Bound).length:Int) = 1:=by rw [Z4g];rfl
  have e2:IntKind.u64.wrap (n:Int) = n:=by rw [Z4g];omega
  rw [e1,e2];unfold ZY;rw [mul64_eq (by unfold Z8X;omega) (by unfold Z8X;omega)]
  simp only [Y3];omega
 unfold ZO
 rw [ZQ (by omega),cond_false,hmul]
 simp only []
 rw [ZQ (by omega),ZQ (by omega),Bool.or_self,cond_false,Z6 (by omega)]
 have hnew:new? 16 (n:Int) (Bound.mk 0 0) = some (List.replicate n ⟨0,0⟩):=by
  unfold new?;rw [if_pos ⟨by omega,by rw [Z5K];omega⟩,YU]
 rw [hnew,Y0]
 have hcp:cpy (List.replicate n (⟨0,0⟩ : Bound)) [a] = a :: List.replicate (n - 1) ⟨0,0⟩:=by
  unfold cpy;rw [Y0V,List.length_singleton,Nat.min_eq_left h1,List.drop_replicate]
  rfl
 have hmin:(min ([a] : List Bound).length (List.replicate n (⟨0,0⟩ : Bound)).length:Nat) = 1:=by
  rw [Y0V,List.length_singleton,Nat.min_eq_left h1]
 rw [hcp,hmin]
 have key:=Z0z (step:=ZO.s0 [a] (n:Int)) (I:=fun s r => r = List.replicate n a∧∃ p:Nat,s.1 = (p:Int)∧1≤p∧p≤n∧s.2.length = n∧s.2.take p = List.replicate p a) (fun s => n - s.1.toNat) ?_ (s:=(((1:Nat):Int),a :: List.replicate (n - 1) ⟨0,0⟩)) (r:=List.replicate n a) ⟨rfl,1,rfl,YB _,h1,by simp;omega,rfl⟩
 ·rw [key];rfl
 ·rintro ⟨s1,xs⟩ r ⟨rfl,p,hp,hp1,hpn,hlen,htake⟩;simp only at hp hlen htake;subst hp;unfold ZO.s0;rw [hmul];simp only [hlen]
  by_cases hlt:p < n
  ·rw [ZP (by omega),cond_true,Z6 (x:=(n:Int)) (by omega),YU,YU]
   have w1:winA (p:Int) n = some ():=if_pos ⟨by omega,by omega⟩
   have w2:winB (p:Int) n = some ():=if_pos ⟨by omega,by omega⟩
   rw [w1,w2,Y0,Y0];refine .inl ⟨_,rfl,⟨trivial,p + min p (n - p),?_,by omega,by omega,?_,?_⟩,?_⟩
   ·rw [Z6 (by omega)];push_cast;rfl
   ·simp only [dbl,YZ,YL,Y07,hlen];omega
   ·have hd:dbl xs p = List.replicate p a ++ List.replicate (min p (n - p)) a ++ xs.drop (p + min p (n - p)):=by
     unfold dbl;rw [htake,hlen,List.take_replicate,Nat.min_comm (n - p) p]
    simp only [hd];rw [List.replicate_append_replicate,Y0P (by simp),Y0D (by simp)]
   ·simp only [YU];rw [Z6 (by omega)]
    omega
  ·have hpe:p = n:=by omega
   subst hpe;rw [ZQ (by omega),cond_false]
   refine .inr ?_;rw [Y0D (by omega)] at htake
   rw [htake]
end Go.Dn

namespace Go.Dn
open Go
def newM:Nat→Nat→Option Int:=fun a b => if a = b then some 0 else none
def BdM (n:Nat) (M:Nat→Nat→Option Int) (B:Int):Prop:=∀ i j,i < n→j < n→inB B (M i j)
theorem stp_New_eq {n:Nat} (h1:1≤n) (h2:n≤24):Z3w (n:Int) = some (Mat n newM,0):=by
 unfold Z3w
 rw [ZQ (by omega),ZQ (by omega),Bool.or_self,cond_false]
 have hnew:new? 24 (n:Int) ([] : List Bound) = some (List.replicate n []):=by
  unfold new?;rw [if_pos ⟨by omega,by rw [Z5K];omega⟩,YU]
 rw [hnew,Y0]
 have key:=Z0z (step:=Z3w.s0 (n:Int)) (I:=fun s r => r = Mat n newM∧∃ p:Nat,s.1 = (p:Int)∧p≤n∧s.2.length = n∧∀ a,a < p→s.2[a]? = some (rowM n newM a)) (fun s => n - s.1.toNat) ?_ (s:=(0,List.replicate n [])) (r:=Mat n newM) ⟨rfl,0,rfl,YM _,by simp,fun a ha => absurd ha (Y0f _)⟩
 ·rw [key];rfl
 ·rintro ⟨s1,L⟩ r ⟨rfl,p,hp,hpn,hlen,hL⟩;simp only at hp hlen hL;subst hp;unfold Z3w.s0;simp only []
  by_cases hlt:p < n
  ·rw [ZP (by omega),cond_true,repeat_eq h1 h2,Y0,at?_nat (by omega),Y0,YU,at?_nat (by rw [Yt];omega),Y0,List.getElem_set_self]
   rw [at?_nat (by simpa using hlt),Y0]
   refine .inl ⟨_,rfl,⟨trivial,p + 1,?_,by omega,?_,?_⟩,?_⟩
   ·simp only [];rw [Z6 (by omega)];push_cast;rfl
   ·simp [hlen]
   ·intro a ha;simp only [Y0Y]
    by_cases hap:p = a
    ·subst hap;rw [if_pos rfl,if_pos (by simp;omega)]
     congr 1
     apply List.ext_getElem
     ·simp [rowM]
     ·intro b g1 g2;rw [List.getElem_set]
      by_cases hb:p = b
      ·subst hb;simp [rowM,newM,bd]
      ·rw [if_neg hb];simp [rowM,newM,bd,hb]
    ·rw [if_neg hap,if_neg hap];exact hL a (by omega)
   ·simp only [];rw [Z6 (by omega)];omega
  ·have hpe:p = n:=by omega
   subst hpe;rw [ZQ (by omega),cond_false]
   refine .inr ?_;have e:L = Mat p newM:=by
    apply Y0Q;intro a
    by_cases ha:a < p
    ·rw [hL a ha];simp [Mat,ha]
    ·rw [YR (by omega),YR (by rw [Z65];omega)]
   rw [e]
theorem findB_none {s:List Bound} {f:Bound→Option Bool} (hs:(s.length:Int) < 4611686018427387904) (h:∀ x ∈ s,f x = some false):Zn s f = some false:=by
 unfold Zn ZM
 have key:=Z0z (step:=ZM.s0 s f) (I:=fun (i:Int) r => r = .go ()∧∃ k:Nat,i = k∧k≤s.length) (fun i => s.length - i.toNat) ?_ (s:=0) (r:=.go ()) ⟨rfl,0,rfl,YM _⟩
 ·rw [key];rfl
 ·rintro i r ⟨rfl,k,rfl,hk⟩;unfold ZM.s0
  by_cases hlt:k < s.length
  ·rw [ZP (by omega),cond_true,at?_nat hlt,Y0,h _ (YF hlt)]
   refine .inl ⟨_,rfl,⟨rfl,k + 1,by rw [Z6 (by omega)];push_cast;rfl,hlt⟩,by rw [Z6 (by omega)];omega⟩
  ·rw [ZQ (by omega),cond_false];exact .inr rfl
theorem findR_none {s:List (List Bound)} {f:List Bound→Option Bool} (hs:(s.length:Int) < 4611686018427387904) (h:∀ x ∈ s,f x = some false):Zj s f = some false:=by
 unfold Zj ZG
 have key:=Z0z (step:=ZG.s0 s f) (I:=fun (i:Int) r => r = .go ()∧∃ k:Nat,i = k∧k≤s.length) (fun i => s.length - i.toNat) ?_ (s:=0) (r:=.go ()) ⟨rfl,0,rfl,YM _⟩
 ·rw [key];rfl
 ·rintro i r ⟨rfl,k,rfl,hk⟩;unfold ZG.s0
  by_cases hlt:k < s.length
  ·rw [ZP (by omega),cond_true,at?_nat hlt,Y0,h _ (YF hlt)]
   refine .inl ⟨_,rfl,⟨rfl,k + 1,by rw [Z6 (by omega)];push_cast;rfl,hlt⟩,by rw [Z6 (by omega)];omega⟩
  ·rw [ZQ (by omega),cond_false];exact .inr rfl
theorem stp_Right_mat {n:Nat} {M:Nat→Nat→Option Int} (h2:n≤24) (hB:BdM n M 1125899906842624):Z3a (Mat n M) = some true:=by
 unfold Z3a
 rw [Z65,ZP (by omega),cond_true,findR_none (by rw [Z65];omega)]
 ·rfl
 ·intro row hrow;simp only [Mat,List.mem_map,Y0l] at hrow;obtain ⟨i,hi,rfl⟩:=hrow
  unfold Z4O;rw [Z9H,bne_f rfl,cond_false,findB_none (by rw [Z9H];omega)]
  ·rfl
  ·intro b hb;simp only [rowM,List.mem_map,Y0l] at hb;obtain ⟨j,hj,rfl⟩:=hb
   unfold Z5b;rw [may_bd (hB i j hi hj)];rfl
theorem stp_own_mat {n:Nat} {M:Nat→Nat→Option Int} (h1:1≤n) (h2:n≤24):Z6o (Mat n M) = some (Mat n M):=by
 unfold Z6o
 have ne:∀ {α:Type} {l:List α},l.length = n→l.isEmpty = false:=by
  intro α l hl;cases l with
  | nil => simp at hl;omega
  | cons a b => rfl
 have hr:=Z5K
 rw [ne Z65,Z65,ZP (by omega)]
 have:((Mat n M).all fun q => !q.isEmpty && decide (q.length * 16≤room)) = true:=by
  rw [YG];intro q hq;simp only [Mat,List.mem_map,Y0l] at hq;obtain ⟨i,hi,rfl⟩:=hq
  rw [ne Z9H,Z9H,ZP (by omega)];rfl
 rw [this];rfl
def setM (M:Nat→Nat→Option Int) (i j:Nat) (v:Option Int):Nat→Nat→Option Int:=updM M i j (omin v (M i j))
theorem setM_bd {n i j:Nat} {M:Nat→Nat→Option Int} {v:Option Int} {B:Int} (hB:BdM n M B) (hi:i < n) (hj:j < n) (hv:inB B v):BdM n (setM M i j v) B:=by
 intro a b ha hb
 unfold setM updM
 split
 ·exact inB_min hv (hB i j hi hj)
 ·exact hB a b ha hb
def goodSet (n:Nat) (x:epactlaw24_Set):Prop:=∃ (i j:Nat) (v:Option Int),i < n∧j < n∧inB 1000 v∧x = ⟨i,j,bd v⟩
theorem newM_bd (n:Nat):BdM n newM 1000:=by
 intro i j _ _
 unfold newM
 split
 ·exact ⟨by omega,by omega⟩
 ·trivial
end Go.Dn

namespace Go.Dn
open Go
abbrev MF:=Nat→Nat→Option Int
def leM (n:Nat) (A M:MF):Prop:=∀ i j,i < n→j < n→ole (A i j) (M i j)
def TriM (n k:Nat) (A:MF):Prop:=∀ m,m < k→∀ i j,i < n→j < n→ole (A i j) (oadd (A i m) (A m j))
def DiagM (n:Nat) (A:MF):Prop:=∀ i,i < n→A i i = some 0
def fw (M:MF) (k:Nat):MF:=fun i j => omin (oadd (M i k) (M k j)) (M i j)
theorem fw_row {M:MF} {k j:Nat} (h:M k k = some 0):fw M k k j = M k j:=by
 unfold fw;rw [h,zero_oadd];exact omin_self (Z5P _)
theorem fw_col {M:MF} {k i:Nat} (h:M k k = some 0):fw M k i k = M i k:=by
 unfold fw;rw [h,oadd_zero];exact omin_self (Z5P _)
theorem fw_le (M:MF) (k i j:Nat):ole (fw M k i j) (M i j):=omin_r _ _
theorem fw_tri {n k:Nat} {M:MF} (hk:k < n) (hd:M k k = some 0) (ht:TriM n k M):TriM n (k + 1) (fw M k):=by
 intro m hm i j hi hj
 by_cases hmk:m = k
 ·subst hmk;rw [fw_row hd,fw_col hd];exact omin_l _ _
 ·have hm':m < k:=by omega
  have T:=ht m hm'
  have t1:fw M k i m = oadd (M i k) (M k m)∨fw M k i m = M i m:=omin_or _ _
  have t2:fw M k m j = oadd (M m k) (M k j)∨fw M k m j = M m j:=omin_or _ _
  have hz:ole (some 0) (oadd (M k m) (M m k)):=by have:=T k k hk hk;rwa [hd] at this
  rcases t1 with e1 | e1 <;> rcases t2 with e2 | e2 <;> rw [e1,e2]
  ·refine Z67 (omin_l _ _) ?_;rw [Z8D,← Z8D (M k m)];refine ZBG (Z5P _) ?_;have:=ZBG hz (Z5P (M k j))
   rwa [zero_oadd] at this
  ·refine Z67 (omin_l _ _) ?_;rw [Z8D];exact ZBG (Z5P _) (T k j hk hj)
  ·refine Z67 (omin_l _ _) ?_;rw [← Z8D];exact ZBG (T i k hi hk) (Z5P _)
  ·exact Z67 (omin_r _ _) (T i j hi hj)
theorem fw_gr {n k:Nat} {M Y:MF} (hk:k < n) (hY:TriM n n Y) (h:leM n Y M):leM n Y (fw M k):=by
 intro i j hi hj
 exact ole_min (Z67 (hY k hk i j hi hj) (ZBG (h i k hi hk) (h k j hk hj))) (h i j hi hj)
theorem fw_bd {n k:Nat} {M:MF} {B:Int} (hk:k < n) (h0:0≤B) (h:BdM n M B):BdM n (fw M k) (2 * B):=by
 intro i j hi hj
 exact inB_min (inB_add (h i k hi hk) (h k j hk hj)) (ZAk (h i j hi hj) (by omega))
def mid (M:MF) (k i j:Nat):MF:=fun a b => if a < i∨(a = i∧b < j) then fw M k a b else M a b
theorem mid_upd {M:MF} {k i j:Nat}:∀ a b,updM (mid M k i j) i j (fw M k i j) a b = mid M k i (j + 1) a b:=by
 intro a b
 unfold updM mid
 by_cases h:a = i∧b = j
 ·rw [if_pos h,if_pos (by omega),h.1,h.2]
 ·rw [if_neg h]
  by_cases h2:a < i∨(a = i∧b < j)
  ·rw [if_pos h2,if_pos (by omega)]
  ·rw [if_neg h2,if_neg (by omega)]
variable {n:Nat} {d:List (List Bound)}
theorem close_s3 {M:MF} {k i:Nat} {B:Int} {s2 s3:Int × List (List Bound)} (hn:n≤24) (hdl:d.length = n) (h2:s2.1 = (k:Int)) (h3:s3.1 = (i:Int)) (hk:k < n) (hi:i < n) (hd:M k k = some 0) (hB:BdM n M B) (hB1:B≤2305843009213693952) :
  loopO (ZS.s3 d s2 s3) (0,Mat n (mid M k i 0)) = some (Mat n (mid M k (i + 1) 0)):=by
 refine Z0z (I:=fun s r => r = Mat n (mid M k (i + 1) 0)∧∃ j:Nat,s = ((j:Int),Mat n (mid M k i j))∧j≤n) (fun s => n - s.1.toNat) ?_ ⟨rfl,0,rfl,YM _⟩
 rintro _ r ⟨rfl,j,rfl,hj⟩
 unfold ZS.s3
 simp only [h2,h3,hdl]
 by_cases hlt:j < n
 ·have e1:mid M k i j i k = M i k:=by
   unfold mid;split
   ·exact fw_col hd
   ·rfl
  have e2:mid M k i j k j = M k j:=by
   unfold mid;split
   ·exact fw_row hd
   ·rfl
  have e3:mid M k i j i j = M i j:=by unfold mid;rw [if_neg (by omega)]
  have hw:w64 ((j:Int) + 1) = ((j + 1:Nat):Int):=by rw [Z6 (by omega)];push_cast;rfl
  rw [ZP (by omega),cond_true,Z72 hi,Y0,Z5V hk,Y0,Z72 hk,Y0,Z5V hlt,Y0,e1,e2,sum_bd hB1 (hB i k hi hk) (hB k j hk hlt)]
  simp only [beq_t,cond_true,Y0,Z72 hi,Z5V hlt,less_bd,e3,hw];refine .inl ?_;have hstep:∀ X,X = Mat n (mid M k i (j + 1))→(∃ s',some (Sum.inl (((j + 1:Nat):Int),X)) = some (Sum.inl s':(Int × List (List Bound)) ⊕ List (List Bound))∧(True∧∃ j:Nat,s' = ((j:Int),Mat n (mid M k i j))∧j≤n)∧n - s'.1.toNat < n - ((j:Int)).toNat):=by
   rintro X rfl;exact ⟨_,rfl,⟨trivial,j + 1,rfl,hlt⟩,by simp only [YU];omega⟩
  cases h:olt (oadd (M i k) (M k j)) (M i j) with
  | true =>
   simp only [cond_true,Y0];refine hstep _ ?_;rw [Mat_set'];refine Z69 fun a b _ _ => ?_
   rw [← mid_upd];have:oadd (M i k) (M k j) = fw M k i j:=by unfold fw;rw [ZBS,if_pos h]
   rw [this]
  | false =>
   simp only [cond_false,Y0];refine hstep _ ?_;refine Z69 fun a b _ _ => ?_
   rw [← mid_upd];unfold updM
   split
   ·rename_i hh;rw [hh.1,hh.2,e3];unfold fw;rw [ZBS,h];rfl
   ·rfl
 ·have:j = n:=by omega
  subst this;rw [ZQ (by omega),cond_false]
  refine .inr ?_
  congr 2
  refine Z69 fun a b ha hb => ?_
  unfold mid
  by_cases h:a < i + 1
  ·rw [if_pos (by omega),if_pos (by omega)]
  ·rw [if_neg (by omega),if_neg (by omega)]
theorem close_s2 {M:MF} {k:Nat} {B:Int} {s2:Int × List (List Bound)} (hn:n≤24) (hdl:d.length = n) (h2:s2.1 = (k:Int)) (hk:k < n) (hd:M k k = some 0) (hB:BdM n M B) (hB1:B≤2305843009213693952) :
  loopO (ZS.s2 d s2) (0,Mat n M) = some (Mat n (fw M k)):=by
 have e0:Mat n M = Mat n (mid M k 0 0):=Z69 fun a b _ _ => by unfold mid;rw [if_neg (by omega)]
 have e1:Mat n (fw M k) = Mat n (mid M k n 0):=Z69 fun a b ha _ => by unfold mid;rw [if_pos (by omega)]
 rw [e0,e1]
 refine Z0z (I:=fun s r => r = Mat n (mid M k n 0)∧∃ i:Nat,s = ((i:Int),Mat n (mid M k i 0))∧i≤n) (fun s => n - s.1.toNat) ?_ ⟨rfl,0,rfl,YM _⟩
 rintro _ r ⟨rfl,i,rfl,hi⟩
 unfold ZS.s2
 simp only [hdl]
 by_cases hlt:i < n
 ·rw [ZP (by omega),cond_true,close_s3 hn hdl h2 rfl hk hlt hd hB hB1,Y0]
  have hw:w64 ((i:Int) + 1) = ((i + 1:Nat):Int):=by rw [Z6 (by omega)];push_cast;rfl
  rw [hw];exact .inl ⟨_,rfl,⟨trivial,i + 1,rfl,hlt⟩,by simp only [YU];omega⟩
 ·have:i = n:=by omega
  subst this;rw [ZQ (by omega),cond_false]
  exact .inr rfl
theorem close_s4 {M:MF} (hn:n≤24) (hdl:d.length = n) :
  (loopO (ZS.s4 d (Mat n M)) 0 = some (.go ())∧∀ i,i < n→olt (M i i) (some 0) = false)∨(loopO (ZS.s4 d (Mat n M)) 0 = some (.ret ())∧∃ i,i < n∧olt (M i i) (some 0) = true):=by
 have key:=Z2o (l:=List.range n) (step:=ZS.s4 d (Mat n M)) (good:=fun k x => olt (M x x) (some 0) = false) (yes:=.go ()) (no:=.ret ()) ?_ ?_
 ·rcases key with ⟨h1,h2⟩ | ⟨h1,h2⟩
  ·exact .inl ⟨h1,fun i hi => h2 i i (by simp [hi])⟩
  ·refine .inr ⟨h1,?_⟩;refine Classical.byContradiction fun hc => h2 fun k x hx => ?_
   have hx':x < n:=by have:=Y7 hx;simpa using this
   cases h:olt (M x x) (some 0) with
   | false => rfl
   | true => exact absurd ⟨x,hx',h⟩ hc
 ·intro k x hx _;obtain ⟨hk,rfl⟩ : k < n∧x = k:=by
   rw [List.getElem?_eq_some_iff] at hx;obtain ⟨h,e⟩:=hx
   simp at h e;exact ⟨h,e.symm⟩
  unfold ZS.s4;rw [hdl,ZP (by omega),cond_true,Z72 hk,Y0,Z5V hk,Y0,less_zero]
  cases h:olt (M x x) (some 0) with
  | true => exact .inr ⟨rfl,by simp⟩
  | false =>
   rw [cond_false,Z6 (by omega)]
   exact .inl ⟨rfl,rfl⟩
 ·unfold ZS.s4;rw [hdl,List.length_range,ZQ (by omega),cond_false]
theorem lt_neg {a:Option Int} (h:olt a (some 0) = true):¬ ole (some 0) a:=by
 cases a <;> simp [olt,ole] at * <;> omega
theorem lt_not {a:Option Int} (h:olt a (some 0) = false) (h2:ole a (some 0)):a = some 0:=by
 cases a <;> simp [olt,ole] at * <;> omega
structure InvC (n:Nat) (B:Int) (M:MF) (k:Nat) (C:MF):Prop where
 diag:DiagM n C
 tri:TriM n k C
 le:leM n C M
 gr:∀ Y,TriM n n Y→DiagM n Y→leM n Y M→leM n Y C
 bd:BdM n C (B * 2 ^ k)
def NoSol (n:Nat) (M:MF):Prop:=∀ Y,TriM n n Y→DiagM n Y→¬ leM n Y M
theorem pow_le24 {k:Nat} (h:k≤24):(2:Int) ^ k≤16777216∧1≤(2:Int) ^ k:=by
 have h1:(2:Nat) ^ k≤2 ^ 24:=Nat.pow_le_pow_right (by omega) h
 have h2:1≤(2:Nat) ^ k:=Nat.one_le_two_pow
 have h3:((2 ^ k:Nat):Int) = (2:Int) ^ k:=by push_cast;rfl
 omega
theorem close_s0 {M:MF} {B:Int} (hB0:0≤B) (hn:n≤24) (hdl:d.length = n) (hB:BdM n M B) :
  (∃ C,loopO (ZS.s0 d) (0,Mat n M) = some (.go (Mat n C))∧InvC n B M 0 C)∨(loopO (ZS.s0 d) (0,Mat n M) = some (.ret ([],false,0))∧NoSol n M):=by
 have key:=Z0Q (step:=ZS.s0 d) (I:=fun s => ∃ (i:Nat) (C:MF),s = ((i:Int),Mat n C)∧i≤n∧(∀ a,a < i→C a a = some 0)∧leM n C M∧(∀ Y,DiagM n Y→leM n Y M→leM n Y C)∧BdM n C B∧∀ a,i≤a→C a a = M a a) (fun s => n - s.1.toNat)
  (fun r => (∃ C,r = .go (Mat n C)∧InvC n B M 0 C)∨(r = .ret ([],false,0)∧NoSol n M)) ?_ (0,Mat n M) ⟨0,M,rfl,YM _,fun a ha => absurd ha (Y0f _),fun i j _ _ => Z5P _,fun Y _ h => h,hB,fun _ _ => rfl⟩
 ·obtain ⟨r,e,⟨C,rfl,h⟩ | ⟨rfl,h⟩⟩:=key
  ·exact .inl ⟨C,e,h⟩
  ·exact .inr ⟨e,h⟩
 ·rintro _ ⟨i,C,rfl,hi,hdg,hle,hgr,hbd,hrest⟩;unfold ZS.s0;simp only [hdl]
  by_cases hlt:i < n
  ·rw [ZP (by omega),cond_true]
   simp only [Z72 hlt,Z5V hlt,Y0,less_zero];cases h:olt (C i i) (some 0) with
   | true =>
    rw [cond_true];refine .inr ⟨_,rfl,.inr ⟨rfl,fun Y hY hD hYM => lt_neg h ?_⟩⟩
    have:=hgr Y hD hYM i i hlt hlt
    rwa [hD i hlt] at this
   | false =>
    rw [cond_false];refine .inl ⟨_,rfl,⟨i + 1,updM C i i (some 0),?_,hlt,?_,?_,?_,?_,?_⟩,?_⟩
    ·rw [Z6 (by omega)]
     congr 1
     exact Mat_set' (some 0)
    ·intro a ha;unfold updM
     split
     ·rfl
     ·exact hdg a (by omega)
    ·intro a b ha hb;unfold updM
     split
     ·rename_i hh;rw [hh.1,hh.2,← hrest i (YB _)];cases hc:C i i with
      | none => trivial
      | some v => rw [hc] at h;simp [olt] at h;simpa [ole] using h
     ·exact hle a b ha hb
    ·intro Y hD hYM a b ha hb;unfold updM
     split
     ·rename_i hh;rw [hh.1,hh.2,hD i hlt];exact Z5P _
     ·exact hgr Y hD hYM a b ha hb
    ·intro a b ha hb;unfold updM
     split
     ·exact ⟨by omega,by omega⟩
     ·exact hbd a b ha hb
    ·intro a ha;unfold updM;rw [if_neg (by omega)]
     exact hrest a (by omega)
    ·simp only [];rw [Z6 (by omega)];omega
  ·have:i = n:=by omega
   subst this;rw [ZQ (by omega),cond_false]
   exact .inr ⟨_,rfl,.inl ⟨C,rfl,hdg,fun m hm => absurd hm (Y0f _),hle,fun Y _ hD => hgr Y hD,by simpa using hbd⟩⟩
theorem close_s1 {M C0:MF} {B:Int} (hB0:0≤B) (hB1:∀ k,k < n→B * 2 ^ k≤2305843009213693952) (hn:n≤24) (hdl:d.length = n) (h0:InvC n B M 0 C0) :
  (∃ C,loopO (ZS.s1 d) (0,Mat n C0) = some (.go (Mat n C))∧InvC n B M n C)∨(loopO (ZS.s1 d) (0,Mat n C0) = some (.ret ([],false,0))∧NoSol n M):=by
 have key:=Z0Q (step:=ZS.s1 d) (I:=fun s => ∃ (k:Nat) (C:MF),s = ((k:Int),Mat n C)∧k≤n∧InvC n B M k C) (fun s => n - s.1.toNat)
  (fun r => (∃ C,r = .go (Mat n C)∧InvC n B M n C)∨(r = .ret ([],false,0)∧NoSol n M)) ?_ (0,Mat n C0) ⟨0,C0,rfl,YM _,h0⟩
 ·obtain ⟨r,e,⟨C,rfl,h⟩ | ⟨rfl,h⟩⟩:=key
  ·exact .inl ⟨C,e,h⟩
  ·exact .inr ⟨e,h⟩
 ·rintro _ ⟨k,C,rfl,hk,hI⟩;unfold ZS.s1;simp only [hdl]
  by_cases hlt:k < n
  ·have hp:=pow_le24 (k:=k) (by omega)
   have hpB:0≤B * 2 ^ k∧B * 2 ^ k≤2305843009213693952:=⟨Int.mul_nonneg hB0 (by omega),hB1 k hlt⟩
   rw [ZP (by omega),cond_true,close_s2 hn hdl rfl hlt (hI.diag k hlt) hI.bd hpB.2,Y0]
   have hbd':BdM n (fw C k) (B * 2 ^ (k + 1)):=by
    have:=fw_bd hlt hpB.1 hI.bd
    have e:B * 2 ^ (k + 1) = 2 * (B * 2 ^ k):=by rw [Int.pow_succ,← Y0h,Ys]
    rw [e];exact this
   have hgr':∀ Y,TriM n n Y→DiagM n Y→leM n Y M→leM n Y (fw C k):=fun Y hT hD hM => fw_gr hlt hT (hI.gr Y hT hD hM)
   rcases close_s4 (d:=d) (M:=fw C k) hn hdl with ⟨e4,h4⟩ | ⟨e4,i,hi,h4⟩
   ·rw [e4];refine .inl ⟨_,rfl,⟨k + 1,fw C k,?_,hlt,?_,fw_tri hlt (hI.diag k hlt) hI.tri,?_,hgr',hbd'⟩,?_⟩
    ·rw [Z6 (by omega)];push_cast;rfl
    ·intro i hi;refine lt_not (h4 i hi) ?_;have:=fw_le C k i i
     rwa [hI.diag i hi] at this
    ·exact fun a b ha hb => Z67 (fw_le C k a b) (hI.le a b ha hb)
    ·simp only [];rw [Z6 (by omega)];omega
   ·rw [e4];refine .inr ⟨_,rfl,.inr ⟨rfl,fun Y hT hD hM => lt_neg h4 ?_⟩⟩
    have:=hgr' Y hT hD hM i i hi hi
    rwa [hD i hi] at this
  ·have:k = n:=by omega
   subst this;rw [ZQ (by omega),cond_false]
   exact .inr ⟨_,rfl,.inl ⟨C,rfl,hI⟩⟩
theorem close_eq2 {M:MF} {B:Int} (hB0:0≤B) (hB2:B≤1125899906842624) (hB1:∀ k,k < n→B * 2 ^ k≤2305843009213693952) (h1:1≤n) (hn:n≤24) (hB:BdM n M B) :
  (∃ C,ZS (Mat n M) = some (Mat n C,true,0)∧InvC n B M n C)∨(ZS (Mat n M) = some ([],false,0)∧NoSol n M):=by
 unfold ZS
 rw [stp_Right_mat hn (fun a b ha hb => ZAk (hB a b ha hb) hB2),Y0,YD,cond_false,stp_own_mat h1 hn,Y0]
 rcases close_s0 (d:=Mat n M) hB0 hn Z65 hB with ⟨C,e,h⟩ | ⟨e,h⟩
 ·rw [e];simp only [Y0,Jx.elim]
  rcases close_s1 (d:=Mat n M) hB0 hB1 hn Z65 h with ⟨C',e',h'⟩ | ⟨e',h'⟩
  ·rw [e'];exact .inl ⟨C',rfl,h'⟩
  ·rw [e'];exact .inr ⟨rfl,h'⟩
 ·rw [e];exact .inr ⟨rfl,h⟩
end Go.Dn

namespace Go.Dn
open Go
def vec (n:Nat) (E:Nat→Int):List Int:=(List.range n).map E
def tm (E:Nat→Int):MF:=fun i j => some (E j - E i)
section
variable {n:Nat} {E:Nat→Int}
theorem tm_tri {k:Nat}:TriM n k (tm E):=by
 intro m _ i j _ _
 simp only [tm,oadd,ole];omega
theorem tm_diag:DiagM n (tm E):=by
 intro i _
 simp only [tm];congr 1;omega
end
variable {n:Nat}
def Early (n:Nat) (C:MF) (E:Nat→Int) (i k:Nat):Prop:=(∀ j,j < k→ole (some (E i)) (C j i))∧(E i = 0∨∃ j,j < n∧C j i = some (E i))
noncomputable def sameTail (x1:List (List Bound)) (x2:List (List Bound) × Bool × Int) (t:List Int):Option Bool :=
 (Z1P x1 t).bind fun x8 =>
 (bif ((x2.2.2 != 0) || (!x2.2.1)) then
  some ((((x2.2.2 == 0) && (!x8)) && ((x2.1.length:Int) == 0)) && Z27)
 else
  (Z1P x2.1 t).bind fun x10 =>
  (bif (x10 != x8) then
   some false
  else
   (Z2Q x2.1 (x1.length:Int)).bind fun x11 =>
   (bif (!x11) then
    some false
   else
    (new? 8 (x1.length:Int) 0).bind fun x12 =>
    (loopO (Z08.s1 x1 x2) (0,x12)).bind fun (y2:(List Int)) =>
    (Z1P x1 y2).bind fun x19 =>
    (
     (bif x19 then
      (Z1P x2.1 y2).bind fun x20 =>
      some x20
     else
      some false)).bind fun (y6:Bool) =>
    some (y6 && Z27))))
end Go.Dn

namespace Go.Dn
open Go
def lowM (a b:Range):Int × Bool:=if b.HasLow = true∧(a.HasLow = false∨b.Low > a.Low) then (b.Low,b.HasLow) else (a.Low,a.HasLow)
def Z6h (a b:Range):Int × Bool:=if b.HasHigh = true∧(a.HasHigh = false∨b.High < a.High) then (b.High,b.HasHigh) else (a.High,a.HasHigh)
def Z3J (a b:Range):Range × Bool:=if (lowM a b).2 = true∧(Z6h a b).2 = true∧(lowM a b).1 > (Z6h a b).1 then (Range.mk 0 0 false false,false) else (Range.mk (lowM a b).1 (Z6h a b).1 (lowM a b).2 (Z6h a b).2,true)
theorem Z8J (a b:Range):Z3B a b = some (Z3J a b):=by
 obtain ⟨al,ah,ahl,ahh⟩:=a
 obtain ⟨bl,bh,bhl,bhh⟩:=b
 have e1:Zs (prop_end.mk al ahl) (prop_end.mk bl bhl) (fun z0 => some (Z23 z0)) (fun z0 z1 => some (Z4H z0 z1)) = some (prop_end.mk (lowM ⟨al,ah,ahl,ahh⟩ ⟨bl,bh,bhl,bhh⟩).1 (lowM ⟨al,ah,ahl,ahh⟩ ⟨bl,bh,bhl,bhh⟩).2):=by
  unfold Zs Z23 Z4H lowM;cases bhl <;> cases ahl <;> simp
  by_cases h:al < bl <;> simp [h]
 have e2:Zs (prop_end.mk ah ahh) (prop_end.mk bh bhh) (fun z0 => some (Z23 z0)) (fun z0 z1 => some (Z4G z0 z1)) = some (prop_end.mk (Z6h ⟨al,ah,ahl,ahh⟩ ⟨bl,bh,bhl,bhh⟩).1 (Z6h ⟨al,ah,ahl,ahh⟩ ⟨bl,bh,bhl,bhh⟩).2):=by
  unfold Zs Z23 Z4G Z6h;cases bhh <;> cases ahh <;> simp
  by_cases h:bh < ah <;> simp [h]
 unfold Z3B
 rw [e1,e2]
 simp only [Y0]
 unfold Z3J
 generalize lowM _ _ = p
 generalize Z6h _ _ = q
 obtain ⟨p1,p2⟩:=p
 obtain ⟨q1,q2⟩:=q
 cases p2 <;> cases q2 <;> simp
 by_cases h:q1 < p1 <;> simp [h]
def Z3z (r:Range):Prop:=(r.HasLow = true∨r.Low = 0)∧(r.HasHigh = true∨r.High = 0)
def Z4o (r:Range):Prop:=In64 r.Low∧In64 r.High
def Z3Y (a b:Range):Prop:=(b.HasLow = true→a.HasLow = true∧b.Low≤a.Low)∧(b.HasHigh = true→a.HasHigh = true∧a.High≤b.High)
def inRg (r:Range) (d:Int):Prop:=(r.HasLow = true→r.Low≤d)∧(r.HasHigh = true→d≤r.High)
theorem narrow_refl (a:Range):Z3Y a a:=⟨fun h => ⟨h,Yb _⟩,fun h => ⟨h,Yb _⟩⟩
theorem narrow_trans {a b c:Range} (h1:Z3Y a b) (h2:Z3Y b c):Z3Y a c:=by
 refine ⟨fun h => ?_,fun h => ?_⟩
 ·obtain ⟨p,q⟩:=h2.1 h
  obtain ⟨p',q'⟩:=h1.1 p
  exact ⟨p',by omega⟩
 ·obtain ⟨p,q⟩:=h2.2 h
  obtain ⟨p',q'⟩:=h1.2 p
  exact ⟨p',by omega⟩
theorem inRg_mono {a b:Range} (h:Z3Y a b) {d:Int} (hd:inRg a d):inRg b d:=by
 refine ⟨fun hb => ?_,fun hb => ?_⟩
 ·obtain ⟨p,q⟩:=h.1 hb
  have:=hd.1 p
  omega
 ·obtain ⟨p,q⟩:=h.2 hb
  have:=hd.2 p
  omega
theorem lowM_or (a b:Range):(lowM a b = (b.Low,b.HasLow)∧b.HasLow = true∧(a.HasLow = true→b.Low > a.Low))∨(lowM a b = (a.Low,a.HasLow)∧(b.HasLow = true→a.HasLow = true∧b.Low≤a.Low)):=by
 unfold lowM
 by_cases h:b.HasLow = true∧(a.HasLow = false∨b.Low > a.Low)
 ·rw [if_pos h];refine .inl ⟨rfl,h.1,fun h2 => ?_⟩
  rcases h.2 with h3 | h3
  ·rw [h2] at h3;cases h3
  ·exact h3
 ·rw [if_neg h];refine .inr ⟨rfl,fun h2 => ?_⟩
  cases h3:a.HasLow with
  | false => exact absurd ⟨h2,.inl h3⟩ h
  | true => exact ⟨rfl,Int.not_lt.1 fun h4 => h ⟨h2,.inr h4⟩⟩
theorem highM_or (a b:Range):(Z6h a b = (b.High,b.HasHigh)∧b.HasHigh = true∧(a.HasHigh = true→b.High < a.High))∨(Z6h a b = (a.High,a.HasHigh)∧(b.HasHigh = true→a.HasHigh = true∧a.High≤b.High)):=by
 unfold Z6h
 by_cases h:b.HasHigh = true∧(a.HasHigh = false∨b.High < a.High)
 ·rw [if_pos h];refine .inl ⟨rfl,h.1,fun h2 => ?_⟩
  rcases h.2 with h3 | h3
  ·rw [h2] at h3;cases h3
  ·exact h3
 ·rw [if_neg h];refine .inr ⟨rfl,fun h2 => ?_⟩
  cases h3:a.HasHigh with
  | false => exact absurd ⟨h2,.inl h3⟩ h
  | true => exact ⟨rfl,Int.not_lt.1 fun h4 => h ⟨h2,.inr h4⟩⟩
theorem ZD9 {a b:Range} (h:(Z3J a b).2 = true):Z3Y (Z3J a b).1 a∧Z3Y (Z3J a b).1 b∧(∀ d,inRg a d→inRg b d→inRg (Z3J a b).1 d)∧(Z3z a→Z3z (Z3J a b).1)∧(Z4o a→Z4o b→Z4o (Z3J a b).1):=by
 unfold Z3J at h ⊢
 split at h
 ·cases h
 ·rename_i hc;rw [if_neg hc];simp only [Z3Y,inRg,Z3z,Z4o]
  rcases lowM_or a b with ⟨e1,p1,p2⟩ | ⟨e1,p1⟩ <;> rcases highM_or a b with ⟨e2,q1,q2⟩ | ⟨e2,q1⟩ <;> rw [e1,e2]
  ·refine ⟨⟨fun h => ⟨p1,by have:=p2 h;omega⟩,fun h => ⟨q1,by have:=q2 h;omega⟩⟩,⟨fun _ => ⟨p1,Yb _⟩,fun _ => ⟨q1,Yb _⟩⟩,fun d hd1 hd2 => ⟨hd2.1,hd2.2⟩,fun _ => ⟨.inl p1,.inl q1⟩,fun h1 h2 => ⟨h2.1,h2.2⟩⟩
  ·refine ⟨⟨fun h => ⟨p1,by have:=p2 h;omega⟩,fun h => ⟨h,Yb _⟩⟩,⟨fun _ => ⟨p1,Yb _⟩,fun h => q1 h⟩,fun d hd1 hd2 => ⟨hd2.1,hd1.2⟩,fun h => ⟨.inl p1,h.2⟩,fun h1 h2 => ⟨h2.1,h1.2⟩⟩
  ·refine ⟨⟨fun h => ⟨h,Yb _⟩,fun h => ⟨q1,by have:=q2 h;omega⟩⟩,⟨fun h => p1 h,fun _ => ⟨q1,Yb _⟩⟩,fun d hd1 hd2 => ⟨hd1.1,hd2.2⟩,fun h => ⟨h.1,.inl q1⟩,fun h1 h2 => ⟨h1.1,h2.2⟩⟩
  ·exact ⟨⟨fun h => ⟨h,Yb _⟩,fun h => ⟨h,Yb _⟩⟩,⟨fun h => p1 h,fun h => q1 h⟩,fun d hd1 hd2 => ⟨hd1.1,hd1.2⟩,fun h => h,fun h1 h2 => h1⟩
theorem meet_yes {a b:Range} {d:Int} (h1:inRg a d) (h2:inRg b d):(Z3J a b).2 = true:=by
 unfold Z3J
 split
 ·rename_i hc
  exfalso
  obtain ⟨c1,c2,c3⟩:=hc
  have l:(lowM a b).1≤d:=by
   rcases lowM_or a b with ⟨e1,p1,p2⟩ | ⟨e1,p1⟩ <;> rw [e1] at c1 ⊢
   ·exact h2.1 p1
   ·exact h1.1 c1
  have g:d≤(Z6h a b).1:=by
   rcases highM_or a b with ⟨e1,p1,p2⟩ | ⟨e1,p1⟩ <;> rw [e1] at c2 ⊢
   ·exact h2.2 p1
   ·exact h1.2 c2
  omega
 ·rfl
theorem meet_comm {a b:Range} (h:(a.HasLow || (a.Low == 0)) = true∧(b.HasLow || (b.Low == 0)) = true∧(a.HasHigh || (a.High == 0)) = true∧(b.HasHigh || (b.High == 0)) = true):Z3J a b = Z3J b a:=by
 obtain ⟨al,ah,ahl,ahh⟩:=a
 obtain ⟨bl,bh,bhl,bhh⟩:=b
 simp only [Ym,beq_iff_eq] at h
 obtain ⟨h1,h2,h3,h4⟩:=h
 have e1:lowM ⟨al,ah,ahl,ahh⟩ ⟨bl,bh,bhl,bhh⟩ = lowM ⟨bl,bh,bhl,bhh⟩ ⟨al,ah,ahl,ahh⟩:=by
  unfold lowM;cases ahl <;> cases bhl <;> simp at h1 h2 ⊢
  ·omega
  ·by_cases g1:al < bl
   ·rw [if_pos g1,if_neg (by omega)]
   ·rw [if_neg g1]
    by_cases g2:bl < al
    ·rw [if_pos g2]
    ·rw [if_neg g2];simp;omega
 have e2:Z6h ⟨al,ah,ahl,ahh⟩ ⟨bl,bh,bhl,bhh⟩ = Z6h ⟨bl,bh,bhl,bhh⟩ ⟨al,ah,ahl,ahh⟩:=by
  unfold Z6h;cases ahh <;> cases bhh <;> simp at h3 h4 ⊢
  ·omega
  ·by_cases g1:bh < ah
   ·rw [if_pos g1,if_neg (by omega)]
   ·rw [if_neg g1]
    by_cases g2:ah < bh
    ·rw [if_pos g2]
    ·rw [if_neg g2];simp;omega
 unfold Z3J
 rw [e1,e2]
theorem ZDh {r:Range}:Z46 r = true ↔ Z3z r:=by
 unfold Z46 Z3z
 simp
structure NetI (n:Net):Prop where
 vars:0≤n.Vars∧n.Vars≤8
 forms:∀ f ∈ n.Forms,Lim f∧RightF f∧Z8f f∧Zo f = some 0
 nf:n.Forms.length≤4
 nc:n.Cons.length≤8
 cons:∀ c ∈ n.Cons,(0≤c.X∧c.X < n.Vars)∧(0≤c.Y∧c.Y < n.Vars)∧(0≤c.Form∧c.Form < n.Forms.length)∧Z3z c.Range∧Z4o c.Range
theorem NetI.right {n:Net} (h:NetI n):RightN n :=
 ⟨⟨h.vars.1,by have:=h.vars.2;omega⟩,fun f hf => ⟨(h.forms f hf).1,(h.forms f hf).2.1⟩,fun c hc => ⟨(h.cons c hc).1,(h.cons c hc).2.1,(h.cons c hc).2.2.1⟩,by have:=h.nc;omega⟩
theorem NetI.tag {n:Net} (h:NetI n):Z1Z n = some 0:=by
 have hv:=h.vars
 have hf:=h.nf
 have hc:=h.nc
 unfold Z1Z
 have c1:Z0Y n.Vars 25 = true:=Z2O.2 (by omega)
 rw [c1]
 simp only [YD,cond_false]
 rw [ZQ (show ¬ (n.Forms.length:Int) > 20 by omega)]
 simp only [cond_false,Y0]
 rw [ZQ (show ¬ (n.Cons.length:Int) > 200 by omega)]
 simp only [cond_false]
 obtain ⟨b1,e1,i1⟩:=Z5h (l:=n.Forms) (f:=fun z0 => Z19 z0) (p:=fun f => false) (by omega) (fun f hm => by
  unfold Z19;rw [(h.forms f hm).2.2.2]
  rfl)
 obtain ⟨b2,e2,i2⟩:=Z6U (l:=n.Cons) (f:=fun z0 => some (Z0n z0 n)) (p:=fun c => Z0n c n) (by omega) (fun _ _ => rfl)
 rw [e1]
 simp only [Y0]
 cases b1 with
 | true => obtain ⟨x,_,hx⟩:=i1.1 rfl;cases hx
 | false =>
 simp only [cond_false]
 rw [e2]
 simp only [Y0]
 cases b2 with
 | true =>
  obtain ⟨c,hm,hx⟩:=i2.1 rfl
  obtain ⟨q1,q2,q3,q4,_⟩:=h.cons c hm
  unfold Z0n Z3d at hx;rw [Z2O.2 q1,Z2O.2 q2,Z2O.2 q3,ZDh.2 q4] at hx;cases hx
 | false => rfl
theorem Z9w {n:Net} (hf:∀ f ∈ n.Forms,Lim f) (l1:(n.Forms.length:Int) < 4611686018427387904) (l2:(n.Cons.length:Int) < 4611686018427387904):∃ e,Z1Z n = some e∧(e = 0→(0≤n.Vars∧n.Vars≤24)∧(∀ f ∈ n.Forms,Zo f = some 0∧RightF f)∧∀ c ∈ n.Cons,(0≤c.X∧c.X < n.Vars)∧(0≤c.Y∧c.Y < n.Vars)∧(0≤c.Form∧c.Form < n.Forms.length)∧Z3z c.Range):=by
 unfold Z1Z
 cases c1:Z0Y n.Vars 25 with
 | false => exact ⟨230,rfl,fun h => absurd h (by decide)⟩
 | true =>
 simp only [YD,cond_false]
 cases c2:decide ((n.Forms.length:Int) > 20) with
 | true => exact ⟨230,rfl,fun h => absurd h (by decide)⟩
 | false =>
 simp only [cond_false,Y0]
 cases c3:decide ((n.Cons.length:Int) > 200) with
 | true => exact ⟨230,rfl,fun h => absurd h (by decide)⟩
 | false =>
 simp only [cond_false]
 have hfr:∀ f ∈ n.Forms,Z19 f = some ((Zo f).getD 0 != 0):=fun f hm => by
  unfold Z19
  rcases Z3t (hf f hm) with ⟨q,h⟩ | ⟨q,r,h⟩ | ⟨q,r,h⟩ <;> rw [h] <;> rfl
 obtain ⟨b1,e1,i1⟩:=Z5h (l:=n.Forms) (f:=fun z0 => Z19 z0) (p:=fun f => (Zo f).getD 0 != 0) l1 hfr
 obtain ⟨b2,e2,i2⟩:=Z6U (l:=n.Cons) (f:=fun z0 => some (Z0n z0 n)) (p:=fun c => Z0n c n) l2 (fun _ _ => rfl)
 rw [e1]
 simp only [Y0]
 cases b1 with
 | true => exact ⟨230,rfl,fun h => absurd h (by decide)⟩
 | false =>
 simp only [cond_false]
 rw [e2]
 simp only [Y0]
 cases b2 with
 | true => exact ⟨230,rfl,fun h => absurd h (by decide)⟩
 | false =>
 refine ⟨0,rfl,fun _ => ?_⟩
 have v:=Z2O.1 c1
 refine ⟨by omega,fun f hm => ?_,fun c hm => ?_⟩
 ·rcases Z3t (hf f hm) with ⟨q,h⟩ | ⟨q,r,h⟩ | ⟨q,r,h⟩
  ·have:(false:Bool) = true:=i1.2 ⟨f,hm,by rw [h];rfl⟩
   cases this
  ·exact ⟨h,r⟩
  ·have:(false:Bool) = true:=i1.2 ⟨f,hm,by rw [h];rfl⟩
   cases this
 ·cases hc:Z0n c n with
  | true => have:=i2.2 ⟨c,hm,hc⟩;cases this
  | false =>
   unfold Z0n Z3d at hc;simp only [Bool.not_eq_false',Y9] at hc;exact ⟨Z2O.1 hc.1.1.1,Z2O.1 hc.1.1.2,Z2O.1 hc.1.2,ZDh.1 hc.2⟩
end Go.Dn

namespace Go.Dn
open Go
theorem ZCu {f:Form} (hl:Lim f) (hr:RightF f) (hsm:FewF f) {low high:Bound} (h:bad low high = false):∃ r ok,Z0g f low high = some (r,ok,0)∧Z4o r:=by
 unfold Z0g
 rw [show ((((!(ZF low)) || (!(ZF high))) || (low.Inf == 1)) || (high.Inf == (-1))) = false from h,cond_false,ZAo,Z7w]
 have zero:Z4o (Range.mk 0 0 false false):=by unfold Z4o In64;simp
 have t1:((high.Inf == 0) && (decide (high.N≤1099511627776))) = true→ZD (max high.N (-1099511627776)):=fun h => by
  simp at h;unfold ZD;omega
 have t2:((low.Inf == 0) && (decide (low.N ≥ (-1099511627776)))) = true→ZD (min low.N 1099511627776):=fun h => by
  simp at h;unfold ZD;omega
 cases ch:((high.Inf == 0) && (decide (high.N≤1099511627776))) with
 | true =>
  rw [cond_true];obtain ⟨n,b,e1,e2,e3⟩:=Z7i hl hr hsm (t1 ch)
  rw [e1];simp only [Y0];cases b with
  | false => exact ⟨_,_,rfl,zero⟩
  | true =>
   simp only [YD,cond_false,Y0,Jx.elim];cases cl:((low.Inf == 0) && (decide (low.N ≥ (-1099511627776)))) with
   | true =>
    rw [cond_true];obtain ⟨m,c,f1,f2,f3⟩:=Z7m hl hr hsm (t2 cl)
    rw [f1];simp only [Y0];cases c with
    | false => exact ⟨_,_,rfl,zero⟩
    | true =>
     simp only [YD,cond_false,Y0,Jx.elim];refine ⟨_,_,rfl,?_⟩;unfold Z4o In64;unfold BigI at e2 f2;simp only [];omega
   | false =>
    simp only [cond_false,Y0,Jx.elim];refine ⟨_,_,rfl,?_⟩;unfold Z4o In64;unfold BigI at e2;simp only [];omega
 | false =>
  simp only [cond_false,Y0,Jx.elim];cases cl:((low.Inf == 0) && (decide (low.N ≥ (-1099511627776)))) with
  | true =>
   rw [cond_true];obtain ⟨m,c,f1,f2,f3⟩:=Z7m hl hr hsm (t2 cl)
   rw [f1];simp only [Y0];cases c with
   | false => exact ⟨_,_,rfl,zero⟩
   | true =>
    simp only [YD,cond_false,Y0,Jx.elim];refine ⟨_,_,rfl,?_⟩;unfold Z4o In64;unfold BigI at f2;simp only [];omega
  | false =>
   simp only [cond_false,Y0,Jx.elim];exact ⟨_,_,rfl,zero⟩
def negB:Option Int→Bound
 | none => Bound.mk (-1) 0
 | some k => Bound.mk 0 (-k)
theorem minus_bd {a:Option Int} (h:inB 1125899906842624 a):(Z5 (bd a)).1 = negB a:=by
 cases a with
 | none => clear h;decide
 | some k =>
  have hk : -1125899906842624≤k∧k≤1125899906842624:=h
  have e1:ZF (bd (some k)) = true:=rfl
  have e2:Z11 0 (bd (some k)).N = (0 - k,0):=by
   rw [show (bd (some k)).N = k from rfl,subF (by unfold In64;omega) (by unfold In64;omega)]
   rcases fit_or (0 - k) with ⟨_,h⟩ | ⟨h,_⟩
   ·exact h
   ·unfold In64 at h;omega
  unfold Z5;rw [e1,e2];simp only [YD,cond_false,bne_self_eq_false]
  show Bound.mk (IntKind.i8.wrap (0 - 0)) (0 - k) = Bound.mk 0 (-k)
  rw [show IntKind.i8.wrap (0 - 0) = 0 by decide,Int.zero_sub]
theorem bound_bd {d:Int} (h : -1099511627776≤d∧d≤1099511627776):∃ a,ZC3 d = bd a∧inB 1099511627776 a∧∀ z,(d = -1099511627776∨d≤-z)→ole (some z) a:=by
 unfold ZC3
 split
 ·exact ⟨none,rfl,trivial,fun _ _ => trivial⟩
 ·refine ⟨some (-d),rfl,?_,fun z hz => ?_⟩
  ·show -1099511627776≤-d∧-d≤1099511627776
   omega
  ·show z≤-d
   omega
section
variable {f:Form}
theorem ticks_bd (hl:Lim f) (hr:RightF f) (hsm:Z8f f) {r:Range} (ho:Z4o r):∃ lo hi a b,Z1f f r = some (lo,hi)∧hi = bd a∧(Z5 lo).1 = bd b∧inB 1099511627776 a∧inB 1099511627776 b ∧
  ∀ x y i k,Bears f i x→Bears f k y→inRg r (k - i)→ole (some (y - x)) a∧ole (some (x - y)) b:=by
 obtain ⟨lo,hi,e,h1,h2⟩:=ticks_eq hl hr hsm (r:=r) ⟨by rw [ZAq];exact ho.1,by rw [ZAq];exact ho.2,trivial,trivial⟩
 have hH:∃ a,hi = bd a∧inB 1099511627776 a∧∀ x y i k,Bears f i x→Bears f k y→inRg r (k - i)→ole (some (y - x)) a:=by
  rcases h2 with ⟨rfl,_⟩ | ⟨d,rfl,q1,q2⟩
  ·exact ⟨none,rfl,trivial,fun _ _ _ _ _ _ _ => trivial⟩
  ·obtain ⟨a,p1,p2,p3⟩:=bound_bd ⟨q1.1,q1.2.1⟩
   refine ⟨a,p1,p2,fun x y i k hx hy hin => p3 _ ?_⟩
   have:=low_sound hr.shape hy hx q1 (by have:=hin.2 q2;omega)
   omega
 have hL:∃ b,(Z5 lo).1 = bd b∧inB 1099511627776 b∧∀ x y i k,Bears f i x→Bears f k y→inRg r (k - i)→ole (some (x - y)) b:=by
  rcases h1 with ⟨rfl,_⟩ | ⟨d,rfl,q1,q2⟩
  ·exact ⟨none,by decide,trivial,fun _ _ _ _ _ _ _ => trivial⟩
  ·obtain ⟨b,p1,p2,p3⟩:=bound_bd ⟨q1.1,q1.2.1⟩
   refine ⟨b,by rw [ZCT ⟨q1.1,q1.2.1⟩];exact p1,p2,fun x y i k hx hy hin => p3 _ ?_⟩
   have:=low_sound hr.shape hx hy q1 (hin.1 q2)
   omega
 obtain ⟨a,a1,a2,a3⟩:=hH
 obtain ⟨b,b1,b2,b3⟩:=hL
 exact ⟨lo,hi,a,b,e,a1,b1,a2,b2,fun x y i k hx hy hin => ⟨a3 x y i k hx hy hin,b3 x y i k hx hy hin⟩⟩
noncomputable def Z6j (f:Form) (a b:Int):Int × Bool:=(Z13 f a b).getD (0,false)
theorem ZDf (hl:Lim f) (hs:Shape f) (a b:Int):Z13 f a b = some (Z6j f a b)∧((Z6j f a b).2 = true→∃ i k,Bears f i a∧Bears f k b∧(Z6j f a b).1 = k - i):=by
 obtain ⟨x,y,_,_,h1,h2,e⟩:=distance_eq hl hs a b
 have ed:Z6j f a b = if x.2 = true∧y.2 = true then (y.1 - x.1,true) else (0,false):=by unfold Z6j;rw [e];rfl
 refine ⟨by rw [ed];exact e,fun h => ?_⟩
 rw [ed] at h ⊢
 split at h
 ·rename_i hc;rw [if_pos hc];exact ⟨x.1,y.1,h1 hc.1,h2 hc.2,rfl⟩
 ·cases h
end
variable {n:Net}
noncomputable def Z5A (n:Net) (c:Con):Form:=n.Forms.getD c.Form.toNat (Form.mk 0 0 [] [])
theorem form_at {c:Con} (h:0≤c.Form∧c.Form < n.Forms.length):at? n.Forms c.Form = some (Z5A n c)∧Z5A n c ∈ n.Forms:=by
 have hlt:c.Form.toNat < n.Forms.length:=by omega
 have e:Z5A n c = n.Forms[c.Form.toNat]:=by unfold Z5A;simp [YJ,hlt]
 rw [e]
 exact ⟨at?_lt h.1 h.2,YF hlt⟩
def metS (n:Net) (E:Nat→Int) (c:Con):Prop:=(Z6j (Z5A n c) (E c.X.toNat) (E c.Y.toNat)).2 = true∧inRg c.Range (Z6j (Z5A n c) (E c.X.toNat) (E c.Y.toNat)).1
def Z5T (n:Net) (E:Nat→Int):Prop:=∀ c ∈ n.Cons,metS n E c
theorem set_if {v:Nat} {M:MF} {i j:Nat} {a:Option Int} (hi:i < v) (hj:j < v) :
  ((at? (Mat v M) (i:Int)).bind fun x5 => (at? x5 (j:Int)).bind fun x6 => (bif (Z0K (bd a) x6) then (at? (Mat v M) (i:Int)).bind fun x7 => (at? x7 (j:Int)).bind fun x8 => some ((Mat v M).set ((i:Int)).toNat (x7.set ((j:Int)).toNat (bd a))) else some (Mat v M))) = some (Mat v (setM M i j a)):=by
 simp only [Z72 hi,Z5V hj,Y0,less_bd]
 unfold setM
 rw [ZBS]
 cases h:olt a (M i j) with
 | true =>
  simp only [cond_true,if_true];rw [Mat_set']
 | false =>
  simp only [cond_false];have:(if false = true then a else M i j) = M i j:=by simp
  rw [this]
  congr 1
  refine Z69 fun a b _ _ => ?_
  unfold updM
  split
  ·rename_i hh;rw [hh.1,hh.2]
  ·rfl
theorem leM_set {v:Nat} {Y M:MF} {i j:Nat} {a:Option Int} (h:leM v Y M) (ha:ole (Y i j) a) (hi:i < v) (hj:j < v):leM v Y (setM M i j a):=by
 intro p q hp hq
 unfold setM updM
 split
 ·rename_i hh;rw [hh.1,hh.2];exact ole_min ha (h i j hi hj)
 ·exact h p q hp hq
theorem newS_eq {v:Nat} (h:v≤24):Z2s (v:Int) = some (Mat v newM,0):=by
 have key:Z3w (v:Int) = some (Mat v newM,0):=by
  by_cases h0:v = 0
  ·subst h0;unfold Z3w;rw [ZQ (by omega),ZQ (by omega),Bool.or_self,cond_false]
   have hnew:new? 24 ((0:Nat):Int) ([] : List Bound) = some []:=by
    unfold new?;rw [if_pos ⟨by omega,by simp⟩]
    rfl
   rw [hnew,Y0,Z1e];unfold Z3w.s0;rw [ZQ (by simp),cond_false]
   rfl
  ·exact stp_New_eq (by omega) h
 have e:Z2s (v:Int) = Z3w (v:Int):=by
  unfold Z2s Z3w;have:((decide ((v:Int) < 0)) || (decide ((v:Int) > 24))) = false:=by
   rw [ZQ (by omega),ZQ (by omega)]
   rfl
  rw [this,cond_false,cond_false]
  rfl
 rw [e,key]
theorem prop_ticks_eq (h:NetI n):∃ (v:Nat) (M:MF),n.Vars = v∧v≤8∧Z1M n = some (Mat v M)∧BdM v M 1099511627776∧∀ E,Z5T n E→leM v (tm E) M:=by
 obtain ⟨v,hv⟩ : ∃ v:Nat,n.Vars = v:=⟨n.Vars.toNat,by have:=h.vars.1;omega⟩
 have hv8:v≤8:=by have:=h.vars.2;omega
 have hnc:=h.nc
 have key:=Z0Q (step:=Z1M.s0 n) (I:=fun s => ∃ (k:Nat) (A:MF),s = ((k:Int),Mat v A)∧k≤n.Cons.length∧BdM v A 1099511627776∧∀ E,Z5T n E→leM v (tm E) A) (fun s => n.Cons.length - s.1.toNat)
  (fun r => ∃ A,r = Mat v A∧BdM v A 1099511627776∧∀ E,Z5T n E→leM v (tm E) A) ?_ (0,Mat v newM) ⟨0,newM,rfl,YM _,fun i j hi hj => ZAk (newM_bd v i j hi hj) (by omega),?_⟩
 ·obtain ⟨r,e,A,rfl,h1,h2⟩:=key
  refine ⟨v,A,hv,hv8,?_,h1,h2⟩;unfold Z1M;rw [hv,newS_eq (by omega)]
  simp only [Y0];rw [e]
  rfl
 ·rintro _ ⟨k,A,rfl,hk,hB,hA⟩;unfold Z1M.s0;simp only []
  by_cases hlt:k < n.Cons.length
  ·rw [ZP (show (k:Int) < (n.Cons.length:Int) by omega),cond_true,at?_nat hlt]
   have hmem:n.Cons[k] ∈ n.Cons:=YF hlt
   obtain ⟨⟨x0,x1⟩,⟨y0,y1⟩,hf,hsc,h64⟩:=h.cons _ hmem
   obtain ⟨f1,f2⟩:=form_at hf
   obtain ⟨g1,g2,g3,_⟩:=h.forms _ f2
   obtain ⟨lo,hi,a,b,e1,rfl,e3,ba,bb,hs⟩:=ticks_bd g1 g2 g3 h64
   obtain ⟨X,hX⟩ : ∃ X:Nat,n.Cons[k].X = X:=⟨n.Cons[k].X.toNat,by omega⟩
   obtain ⟨Y,hY⟩ : ∃ Y:Nat,n.Cons[k].Y = Y:=⟨n.Cons[k].Y.toNat,by omega⟩
   have hXv:X < v:=by omega
   have hYv:Y < v:=by omega
   simp only [Y0,f1,e1,hX,hY,e3];have s1:=set_if (M:=A) (a:=a) hXv hYv
   have s2:=set_if (M:=setM A X Y a) (a:=b) hYv hXv
   refine .inl ⟨(((k + 1:Nat):Int),Mat v (setM (setM A X Y a) Y X b)),?_,⟨k + 1,_,rfl,hlt,setM_bd (setM_bd hB hXv hYv ba) hYv hXv bb,fun E hE => ?_⟩,?_⟩
   ·rw [s1];simp only [Y0];rw [s2];simp only [Y0];rw [Z6 (by omega)]
    push_cast
    rfl
   ·obtain ⟨m1,m2⟩:=hE _ hmem
    obtain ⟨i,kk,b1,b2,b3⟩:=(ZDf g1 g2.shape _ _).2 m1
    rw [b3] at m2;obtain ⟨o1,o2⟩:=hs _ _ _ _ b1 b2 m2
    have ex:n.Cons[k].X.toNat = X:=by omega
    have ey:n.Cons[k].Y.toNat = Y:=by omega
    rw [ex,ey] at o1 o2;exact leM_set (leM_set (hA E hE) o1 hXv hYv) o2 hYv hXv
   ·simp only [];omega
  ·have:k = n.Cons.length:=by omega
   subst this;rw [ZQ (by omega),cond_false]
   exact .inr ⟨_,rfl,A,rfl,hB,hA⟩
 ·intro E _ i j hi hj;unfold newM tm
  split
  ·rename_i hij;subst hij
   show E i - E i≤0
   omega
  ·trivial
theorem closeE_eq {v:Nat} {M:MF} (hv:v≤8) (hB:BdM v M 1099511627776) :
  (∃ C,Z48 (Mat v M) = some (Mat v C,true,0)∧BdM v C 1125899906842624∧∀ E,leM v (tm E) M→leM v (tm E) C)∨(Z48 (Mat v M) = some ([],false,0)∧∀ E,¬ leM v (tm E) M):=by
 by_cases h0:v = 0
 ·subst h0;exact .inl ⟨M,rfl,fun i j hi => absurd hi (Y0f _),fun E _ i j hi => absurd hi (Y0f _)⟩
 ·have hne:(Mat v M).isEmpty = false:=by
   have:=Z65 (n:=v) (M:=M)
   cases h:Mat v M with
   | nil => rw [h] at this;simp at this;omega
   | cons a l => rfl
  have hp:∀ k,k≤v→(1099511627776:Int) * 2 ^ k≤1125899906842624:=fun k hk => by
   have h3:(2:Nat) ^ k≤2 ^ 8:=Nat.pow_le_pow_right (by omega) (by omega)
   have h4:((2 ^ k:Nat):Int) = (2:Int) ^ k:=by push_cast;rfl
   omega
  unfold Z48;rw [hne,cond_false]
  rcases close_eq2 (by omega) (by omega) (fun k hk => Int.le_trans (hp k (by omega)) (by omega)) (by omega) (by omega) hB with ⟨C,e,hC⟩ | ⟨e,hN⟩
  ·exact .inl ⟨C,e,fun i j hi hj => ZAk (hC.bd i j hi hj) (hp v (YB _)),fun E hE => hC.gr _ tm_tri tm_diag hE⟩
  ·exact .inr ⟨e,fun E hE => hN _ tm_tri tm_diag hE⟩
end Go.Dn

namespace Go.Dn
open Go
variable {n:Net} {v:Nat} {C:MF}
theorem bad_bd (a b:Option Int):bad (negB a) (bd b) = false:=by
 cases a <;> cases b <;> rfl
theorem prop_back_eq (h:NetI n) {c:Con} (hc:c ∈ n.Cons) (hv:n.Vars = v) (hB:BdM v C 1125899906842624) {N:Net} (hF:N.Forms = n.Forms) :
  ∃ r ok,Z4P N c (Mat v C) = some (r,ok)∧(ok = true→Z3Y r c.Range∧Z3z r∧Z4o r)∧∀ E,leM v (tm E) C→metS n E c→ok = true∧inRg r (Z6j (Z5A n c) (E c.X.toNat) (E c.Y.toNat)).1:=by
 obtain ⟨⟨x0,x1⟩,⟨y0,y1⟩,hf,hsc,h64⟩:=h.cons c hc
 obtain ⟨f1,f2⟩:=form_at hf
 obtain ⟨g1,g2,g3,_⟩:=h.forms _ f2
 obtain ⟨X,hX⟩ : ∃ X:Nat,c.X = X:=⟨c.X.toNat,by omega⟩
 obtain ⟨Y,hY⟩ : ∃ Y:Nat,c.Y = Y:=⟨c.Y.toNat,by omega⟩
 have hXv:X < v:=by omega
 have hYv:Y < v:=by omega
 have ex:c.X.toNat = X:=by omega
 have ey:c.Y.toNat = Y:=by omega
 have hbad:=bad_bd (C Y X) (C X Y)
 obtain ⟨r1,ok1,e1,s1⟩:=Z91 g1 g2 g3.few hbad
 have hbig:Z4o r1:=by
  obtain ⟨r2,ok2,e2,b2⟩:=ZCu g1 g2 g3.few hbad
  rw [e1] at e2;simp only [Y5,Y3] at e2;rw [e2.1];exact b2
 have hsound:∀ E,leM v (tm E) C→metS n E c→ok1 = true∧inRg r1 (Z6j (Z5A n c) (E c.X.toNat) (E c.Y.toNat)).1:=fun E hE hm => by
  obtain ⟨m1,m2⟩:=hm
  obtain ⟨i,k,b1,b2,b3⟩:=(ZDf g1 g2.shape _ _).2 m1
  rw [ex] at b1;rw [ey] at b2;have l1:=hE Y X hYv hXv
  have l2:=hE X Y hXv hYv
  unfold tm at l1 l2;obtain ⟨rr,e3,sc⟩:=range_sound g1 g2 g3 hbad b1 b2 (fun hI => by
   cases hh:C Y X with
   | none => rw [hh] at hI;cases hI
   | some q =>
    rw [hh] at l1;have l1:E X - E Y≤q:=l1
    show -q≤E Y - E X
    omega) (fun hI => by
   cases hh:C X Y with
   | none => rw [hh] at hI;cases hI
   | some q =>
    rw [hh] at l2;exact l2)
  rw [e1] at e3;simp only [Y5,Y3] at e3;refine ⟨e3.2.1,?_⟩;rw [e3.1,b3];unfold Z1k at sc;simp only [Y9,Ym,YP,decide_eq_true_eq] at sc;refine ⟨fun hh => ?_,fun hh => ?_⟩
  ·rcases sc.1 with q | q
   ·rw [hh] at q;cases q
   ·exact q
  ·rcases sc.2 with q | q
   ·rw [hh] at q;cases q
   ·exact q
 have hpre:Z4P N c (Mat v C) = (bif ((!ok1) || ((0:Int) != 0)) then some ((Range.mk 0 0 false false),false) else (Z3B c.Range r1).bind fun x7 => some (x7.1,x7.2)):=by
  unfold Z4P;rw [hX,hY,hF];simp only [Z72 hYv,Z72 hXv,Z5V hXv,Z5V hYv,Y0,f1,minus_bd (hB Y X hYv hXv),e1]
 rw [hpre]
 cases ok1 with
 | false =>
  refine ⟨_,false,rfl,nofun,fun E hE hm => ?_⟩
  have:=(hsound E hE hm).1
  cases this
 | true =>
  rw [Z8J];simp only [YD,bne_self_eq_false,Y0a,cond_false,Y0];refine ⟨_,_,rfl,fun hok => ?_,fun E hE hm => ?_⟩
  ·obtain ⟨p1,p2,p3,p4,p5⟩:=ZD9 hok
   exact ⟨p1,p4 hsc,p5 h64 hbig⟩
  ·obtain ⟨_,q2⟩:=hsound E hE hm
   have hy:=meet_yes hm.2 q2
   exact ⟨hy,(ZD9 hy).2.2.1 _ hm.2 q2⟩
structure StepR (n n':Net):Prop where
 vars:n'.Vars = n.Vars
 forms:n'.Forms = n.Forms
 len:n'.Cons.length = n.Cons.length
 cons:∀ (j:Nat) (c:Con),n.Cons[j]? = some c→∃ r,n'.Cons[j]? = some (Con.mk c.X c.Y c.Form r)∧Z3Y r c.Range∧Z3z r∧Z4o r
theorem StepR.back {n n':Net} (h:StepR n n') {j:Nat} {c':Con} (hj:n'.Cons[j]? = some c'):∃ c,n.Cons[j]? = some c∧∃ r,c' = Con.mk c.X c.Y c.Form r∧Z3Y r c.Range∧Z3z r∧Z4o r:=by
 have hlt:=(List.getElem?_eq_some_iff.1 hj).1
 have hlt':j < n.Cons.length:=by rw [← h.len];exact hlt
 obtain ⟨r,q1,q2⟩:=h.cons j _ (Y2 hlt')
 rw [hj,Y5] at q1
 exact ⟨_,Y2 hlt',r,q1,q2⟩
theorem StepR.netI {n n':Net} (h:StepR n n') (hn:NetI n):NetI n':=by
 refine ⟨by rw [h.vars];exact hn.vars,fun f hf => hn.forms f (by rw [← h.forms];exact hf),by rw [h.forms];exact hn.nf,by rw [h.len];exact hn.nc,fun c' hc' => ?_⟩
 obtain ⟨j,hj⟩:=YC hc'
 obtain ⟨c,q1,r,rfl,q2,q3,q4⟩:=h.back hj
 obtain ⟨p1,p2,p3,_,_⟩:=hn.cons c (Y7 q1)
 rw [h.vars,h.forms]
 exact ⟨p1,p2,p3,q3,q4⟩
theorem formOf_eq {n n':Net} (h:n'.Forms = n.Forms) {c c':Con} (hc:c'.Form = c.Form):Z5A n' c' = Z5A n c:=by
 unfold Z5A
 rw [h,hc]
theorem StepR.holds {n n':Net} (h:StepR n n') {E:Nat→Int} (hE:Z5T n' E):Z5T n E:=by
 intro c hc
 obtain ⟨j,hj⟩:=YC hc
 obtain ⟨r,q1,q2,_⟩:=h.cons j c hj
 obtain ⟨m1,m2⟩:=hE _ (Y7 q1)
 rw [formOf_eq h.forms (c:=c) (c':=Con.mk c.X c.Y c.Form r) rfl] at m1 m2
 exact ⟨m1,inRg_mono q2 m2⟩
theorem StepR.refl {n:Net} (h:NetI n):StepR n n :=
 ⟨rfl,rfl,rfl,fun j c hj => ⟨c.Range,hj,narrow_refl _,(h.cons c (Y7 hj)).2.2.2⟩⟩
theorem StepR.trans {a b c:Net} (h1:StepR a b) (h2:StepR b c):StepR a c:=by
 refine ⟨h2.vars.trans h1.vars,h2.forms.trans h1.forms,h2.len.trans h1.len,fun j x hj => ?_⟩
 obtain ⟨r,q1,q2,_⟩:=h1.cons j x hj
 obtain ⟨r',p1,p2,p3⟩:=h2.cons j _ q1
 exact ⟨r',p1,narrow_trans p2 q2,p3⟩
theorem round_loop (h:NetI n) (hv:n.Vars = v) (hB:BdM v C 1125899906842624) :
  (∃ L,loopO (Z03.s1 n (Mat v C,true,0) n.Cons) (0,n.Cons) = some (.go L)∧StepR n (Net.mk n.Vars n.Forms L)∧∀ E,leM v (tm E) C→Z5T n E→Z5T (Net.mk n.Vars n.Forms L) E) ∨
  (loopO (Z03.s1 n (Mat v C,true,0) n.Cons) (0,n.Cons) = some (.ret ((Net.mk 0 [] []),[],false))∧∀ E,leM v (tm E) C→¬ Z5T n E):=by
 have hnc:=h.nc
 have key:=Z0Q (step:=Z03.s1 n (Mat v C,true,0) n.Cons)
  (I:=fun s => ∃ (k:Nat) (L:List Con),s = ((k:Int),L)∧k≤n.Cons.length∧L.length = n.Cons.length ∧
   (∀ (j:Nat) (c:Con),n.Cons[j]? = some c→j < k→∃ r,L[j]? = some (Con.mk c.X c.Y c.Form r)∧(Z3Y r c.Range∧Z3z r∧Z4o r)∧∀ E,leM v (tm E) C→Z5T n E→inRg r (Z6j (Z5A n c) (E c.X.toNat) (E c.Y.toNat)).1)∧∀ j,k≤j→L[j]? = n.Cons[j]?)
  (fun s => n.Cons.length - s.1.toNat)
  (fun r => (∃ L,r = .go L∧L.length = n.Cons.length∧∀ (j:Nat) (c:Con),n.Cons[j]? = some c→∃ r,L[j]? = some (Con.mk c.X c.Y c.Form r)∧(Z3Y r c.Range∧Z3z r∧Z4o r)∧∀ E,leM v (tm E) C→Z5T n E→inRg r (Z6j (Z5A n c) (E c.X.toNat) (E c.Y.toNat)).1) ∨
   (r = .ret ((Net.mk 0 [] []),[],false)∧∀ E,leM v (tm E) C→¬ Z5T n E)) ?_ (0,n.Cons) ⟨0,n.Cons,rfl,YM _,rfl,fun j c _ hj => absurd hj (Y0f _),fun _ _ => rfl⟩
 ·obtain ⟨r,e,⟨L,rfl,q1,q2⟩ | ⟨rfl,q⟩⟩:=key
  ·have hS:StepR n (Net.mk n.Vars n.Forms L):=⟨rfl,rfl,q1,fun j c hj => by
    obtain ⟨r,p1,p2,_⟩:=q2 j c hj
    exact ⟨r,p1,p2⟩⟩
   refine .inl ⟨L,e,hS,fun E hE hH c' hc' => ?_⟩
   obtain ⟨j,hj⟩:=YC hc'
   obtain ⟨c,p1,_⟩:=hS.back hj
   obtain ⟨r,p3,_,p5⟩:=q2 j c p1
   have hj:L[j]? = some c':=hj
   rw [hj,Y5] at p3;subst p3;have hm:=hH c (Y7 p1)
   exact ⟨hm.1,p5 E hE hH⟩
  ·exact .inr ⟨e,q⟩
 ·rintro _ ⟨k,L,rfl,hk,hL,hdone,hrest⟩;unfold Z03.s1;simp only []
  by_cases hlt:k < n.Cons.length
  ·rw [ZP (show (k:Int) < (n.Cons.length:Int) by omega),cond_true]
   have hkL:k < L.length:=by omega
   have hLk:L[k] = n.Cons[k]:=by
    have:=hrest k (YB _)
    rw [Y2 hkL,Y2 hlt,Y5] at this;exact this
   have hmem:n.Cons[k] ∈ n.Cons:=YF hlt
   obtain ⟨r,ok,e,p1,p2⟩:=prop_back_eq h hmem hv hB (N:=Net.mk n.Vars n.Forms L) rfl
   rw [at?_nat hkL,hLk];simp only [Y0,e];cases ok with
   | false =>
    rw [Yp,cond_true];refine .inr ⟨_,rfl,.inr ⟨rfl,fun E hE hH => ?_⟩⟩
    have:=(p2 E hE (hH _ hmem)).1
    cases this
   | true =>
    rw [YD,cond_false];refine .inl ⟨_,rfl,⟨k + 1,L.set k (Con.mk n.Cons[k].X n.Cons[k].Y n.Cons[k].Form r),?_,hlt,by simpa using hL,fun j c hj hjk => ?_,fun j hj => ?_⟩,?_⟩
    ·rw [Z6 (by omega),YU]
     push_cast
     rfl
    ·rcases YI j k with hh | hh
     ·obtain ⟨r',q1,q2⟩:=hdone j c hj hh
      refine ⟨r',?_,q2⟩;rw [List.getElem?_set_ne (by omega)]
      exact q1
     ·have hjk':j = k:=by omega
      subst hjk';rw [Y2 hlt,Y5] at hj;subst hj;exact ⟨r,by rw [List.getElem?_set_self hkL],p1 rfl,fun E hE hH => (p2 E hE (hH _ hmem)).2⟩
    ·rw [List.getElem?_set_ne (by omega)]
     exact hrest j (by omega)
    ·simp only [];rw [Z6 (by omega)]
     omega
  ·have hke:k = n.Cons.length:=by omega
   rw [ZQ (by omega),cond_false]
   exact .inr ⟨_,rfl,.inl ⟨L,rfl,hL,fun j c hj => hdone j c hj (by have:=(List.getElem?_eq_some_iff.1 hj).1;omega)⟩⟩
theorem prop_round_eq (h:NetI n):∃ n' d ok,Z03 n = some (n',d,ok) ∧
  (ok = true→StepR n n'∧∃ (v:Nat) (C:MF),n.Vars = v∧v≤8∧d = Mat v C∧BdM v C 1125899906842624∧∀ E,Z5T n E→Z5T n' E∧leM v (tm E) C)∧(ok = false→∀ E,¬ Z5T n E):=by
 obtain ⟨v,M,hv,hv8,e1,hB1,hM⟩:=prop_ticks_eq h
 unfold Z03
 rw [e1]
 simp only [Y0]
 rcases closeE_eq hv8 hB1 with ⟨C,e2,hB,hC⟩ | ⟨e2,hN⟩
 ·rw [e2];simp only [Y0,YD,cond_false];cases hce:n.Cons.isEmpty with
  | true =>
   have hnil:n.Cons = []:=List.isEmpty_iff.1 hce
   have hl:loopO (Z03.s0 n) () = some ():=by
    rw [Z1e];unfold Z03.s0;rw [hnil,ZQ (by simp),cond_false]
   rw [cond_true,hl];refine ⟨n,_,true,rfl,fun _ => ⟨StepR.refl h,v,C,hv,hv8,rfl,hB,fun E hE => ⟨hE,hC E (hM E hE)⟩⟩,nofun⟩
  | false =>
   rw [cond_false];have hcl:Z0i n.Cons = some n.Cons:=by
    unfold Z0i;have hnc:=h.nc
    have hs:∃ u,some? n.Cons = some u:=by
     cases hh:n.Cons with
     | nil => rw [hh] at hce;cases hce
     | cons a l => exact ⟨(),rfl⟩
    obtain ⟨u,hu⟩:=hs
    rw [hu,Y0,app?_ok (by simp [Z5K];omega)]
    rfl
   rw [hcl];simp only [Y0]
   rcases round_loop h hv hB with ⟨L,e3,hS,hL⟩ | ⟨e3,hN⟩
   ·rw [e3];exact ⟨_,_,true,rfl,fun _ => ⟨hS,v,C,hv,hv8,rfl,hB,fun E hE => ⟨hL E (hC E (hM E hE)) hE,hC E (hM E hE)⟩⟩,nofun⟩
   ·rw [e3];exact ⟨_,_,false,rfl,nofun,fun _ E hE => hN E (hC E (hM E hE)) hE⟩
 ·rw [e2];exact ⟨_,_,false,rfl,nofun,fun _ E hE => hN E (hM E hE)⟩
end Go.Dn

namespace Go.Dn
open Go
theorem con_beq (x y:Con):((x.X == y.X) && ((x.Y == y.Y) && ((x.Form == y.Form) && (((x.Range.Low == y.Range.Low) && ((x.Range.High == y.Range.High) && ((x.Range.HasLow == y.Range.HasLow) && ((x.Range.HasHigh == y.Range.HasHigh) && true)))) && true)))) = decide (x = y):=by
 obtain ⟨a1,a2,a3,b1,b2,b3,b4⟩:=x
 obtain ⟨c1,c2,c3,d1,d2,d3,d4⟩:=y
 rw [Bool.eq_iff_iff]
 simp
theorem equal_con {a b:List Con} (hl:a.length = b.length) (hs:a.length≤1000):Zc a b = some (decide (a = b)):=by
 unfold Zc
 rw [bne_f (by omega),cond_false]
 have key:=Z2o (l:=a) (step:=Zc.s0 a b) (good:=fun k x => b[k]? = some x) (yes:=.go ()) (no:=.ret false) ?_ ?_
 ·rcases key with ⟨h1,h2⟩ | ⟨h1,h2⟩
  ·rw [h1];have:a = b:=by
    apply Y0Q;intro k
    by_cases hk:k < a.length
    ·rw [Y2 hk];exact (h2 k _ (Y2 hk)).symm
    ·rw [YR (by omega),YR (by omega)]
   rw [ZP this]
   rfl
  ·rw [h1];have:¬ a = b:=fun h => h2 fun k x hx => by rw [← h];exact hx
   rw [ZQ this]
   rfl
 ·intro k x hk _;obtain ⟨hkl,rfl⟩:=List.getElem?_eq_some_iff.1 hk
  have hkb:k < b.length:=by omega
  unfold Zc.s0;rw [ZP (show (k:Int) < (a.length:Int) by omega),cond_true,at?_nat hkl,Y0,at?_nat hkb,Y0,con_beq,Y2 hkb]
  by_cases h:a[k] = b[k]
  ·rw [ZP h,YD,cond_false,Z6 (by omega),h]
   exact .inl ⟨rfl,rfl⟩
  ·rw [ZQ h,Yp,cond_true];exact .inr ⟨rfl,fun hh => h (Option.some.inj hh).symm⟩
 ·unfold Zc.s0;rw [ZQ (by omega),cond_false]
noncomputable def rF (n:Net):Net × List (List Bound) × Bool:=(Z03 n).getD (Net.mk 0 [] [],[],false)
theorem rF_eq {n:Net} (h:NetI n):Z03 n = some (rF n) ∧
  ((rF n).2.2 = true→StepR n (rF n).1∧∃ (v:Nat) (C:MF),n.Vars = v∧v≤8∧(rF n).2.1 = Mat v C∧BdM v C 1125899906842624∧∀ E,Z5T n E→Z5T (rF n).1 E∧leM v (tm E) C)∧((rF n).2.2 = false→∀ E,¬ Z5T n E):=by
 obtain ⟨n',d,ok,e,h1,h2⟩:=prop_round_eq h
 have:rF n = (n',d,ok):=by unfold rF;rw [e];rfl
 rw [this]
 exact ⟨e,h1,h2⟩
noncomputable def goR:Nat→Net→List (List Bound)→Int→Spread
 | 0,n,d,r => Spread.mk 3 n d r
 | k + 1,n,d,r => if (rF n).2.2 = true then (if (rF n).1.Cons = n.Cons then Spread.mk 1 (rF n).1 (rF n).2.1 (r + 1) else goR k (rF n).1 (rF n).2.1 (r + 1)) else Spread.mk 2 (Net.mk 0 [] []) [] (r + 1)
theorem run_loop {R:Nat} (hR:R≤1000):∀ (k:Nat) (n:Net) (d:List (List Bound)) (r:Nat),NetI n→r + k = R →
  ((loopO (Z0C.s0 (R:Int)) (3,n.Vars,n.Forms,n.Cons,d,(r:Int))).bind fun (y1:Jx (Int × Int × (List Form) × (List Con) × (List (List Bound)) × Int) (Spread × Int)) => y1.elim (fun r' => some r') fun a4 => some ((Spread.mk a4.1 (Net.mk a4.2.1 a4.2.2.1 a4.2.2.2.1) a4.2.2.2.2.1 a4.2.2.2.2.2),(0:Int))) = some (goR k n d (r:Int),0):=by
 intro k
 induction k with
 | zero =>
  intro n d r hn hr;have:r = R:=by omega
  subst this;rw [Z1e];unfold Z0C.s0;simp only [];rw [ZQ (by omega),Y0T,cond_false]
  rfl
 | succ k ih =>
  intro n d r hn hr;obtain ⟨e,h1,h2⟩:=rF_eq hn
  have hstep:Z0C.s0 (R:Int) (3,n.Vars,n.Forms,n.Cons,d,(r:Int)) = if (rF n).2.2 = true then (if (rF n).1.Cons = n.Cons then some (.inl (1,(rF n).1.Vars,(rF n).1.Forms,(rF n).1.Cons,(rF n).2.1,((r + 1:Nat):Int))) else some (.inl (3,(rF n).1.Vars,(rF n).1.Forms,(rF n).1.Cons,(rF n).2.1,((r + 1:Nat):Int)))) else some (.inr (.ret (Spread.mk 2 (Net.mk 0 [] []) [] ((r + 1:Nat):Int),0))):=by
   have hw:w64 ((r:Int) + 1) = ((r + 1:Nat):Int):=by rw [Z6 (by omega)];push_cast;rfl
   unfold Z0C.s0;simp only [];rw [ZP (show (r:Int) < (R:Int) by omega),show ((3:Int) == 3) = true from rfl,Y04,cond_true,e]
   simp only [Y0,hw];cases hok:(rF n).2.2 with
   | false => rfl
   | true =>
    have hlen:=(h1 hok).1.len
    rw [YD,cond_false,equal_con hlen (by have:=hn.nc;omega)]
    simp only [Y0,if_true]
    by_cases heq:(rF n).1.Cons = n.Cons
    ·rw [ZP heq,if_pos heq];rfl
    ·rw [ZQ heq,if_neg heq];rfl
  rw [Z1e,hstep]
  show _ = some (if (rF n).2.2 = true then (if (rF n).1.Cons = n.Cons then Spread.mk 1 (rF n).1 (rF n).2.1 ((r:Int) + 1) else goR k (rF n).1 (rF n).2.1 ((r:Int) + 1)) else Spread.mk 2 (Net.mk 0 [] []) [] ((r:Int) + 1),0)
  have hc:((r + 1:Nat):Int) = (r:Int) + 1:=by push_cast;rfl
  cases hok:(rF n).2.2 with
  | false =>
   rw [hc]
   rfl
  | true =>
   simp only [if_true]
   by_cases heq:(rF n).1.Cons = n.Cons
   ·rw [if_pos heq,if_pos heq];simp only [];rw [Z1e];have:Z0C.s0 (R:Int) (1,(rF n).1.Vars,(rF n).1.Forms,(rF n).1.Cons,(rF n).2.1,((r + 1:Nat):Int)) = some (.inr (.go (1,(rF n).1.Vars,(rF n).1.Forms,(rF n).1.Cons,(rF n).2.1,((r + 1:Nat):Int)))):=by
     unfold Z0C.s0;simp only [];rw [show ((1:Int) == 3) = false from rfl,Bool.and_false,cond_false]
    rw [this,hc]
    rfl
   ·rw [if_neg heq,if_neg heq];simp only [];have:=ih (rF n).1 (rF n).2.1 (r + 1) ((h1 hok).1.netI hn) (by omega)
    rw [this,hc]
theorem prop_Run_eq {n:Net} (h:NetI n) {k:Nat} (h1:1≤k) (h2:k≤1000):Z0C n (k:Int) = some (goR k n [] 0,0):=by
 unfold Z0C
 rw [h.tag]
 simp only [Y0,bne_self_eq_false,cond_false]
 rw [ZQ (by omega),ZQ (by omega),Bool.or_self,cond_false]
 exact run_loop h2 k n [] 0 h (by omega)
theorem ZAm {n:Net} (h:Z1Z n = some 0) {k:Int} (hk:k < 1∨k > 1000):∃ x,Z0C n k = some (x,2):=by
 unfold Z0C
 rw [h]
 simp only [Y0,bne_self_eq_false,cond_false]
 have:((decide (k < 1)) || (decide (k > 1000))) = true:=by simpa using hk
 rw [this,cond_true]
 exact ⟨_,rfl⟩
theorem few_net {n:Net} (hn:n.ok):∃ b,Zv n = some b∧(b = true→NetI n):=by
 obtain ⟨hf,l1,l2⟩:=net_lim hn
 obtain ⟨b0,e0,h0⟩:=few_eq hn
 unfold Zv at e0 ⊢
 cases c1:((decide ((n.Forms.length:Int) > 4) || decide ((n.Cons.length:Int) > 8)) || decide (n.Vars > 8)) with
 | true => exact ⟨false,rfl,nofun⟩
 | false =>
 simp only [Bool.or_eq_false_iff,decide_eq_false_iff_not] at c1
 simp only [cond_false]
 have key:=Z2o (l:=n.Forms) (step:=Zv.s0 n) (good:=fun _ f => ZU f = some true) (yes:=.go ()) (no:=.ret false) (by
  intro k f hk _;obtain ⟨hkl,rfl⟩:=List.getElem?_eq_some_iff.1 hk
  unfold Zv.s0;rw [ZP (show (k:Int) < n.Forms.length by omega),cond_true,at?_nat hkl]
  simp only [Y0];obtain ⟨b,e,_⟩:=ZBe (hf _ (YF hkl))
  rw [e];simp only [Y0];cases b with
  | false => exact .inr ⟨rfl,by simp⟩
  | true => exact .inl ⟨by rw [YD,cond_false,Z6 (by omega)],rfl⟩) (by
  unfold Zv.s0;rw [ZQ (by omega),cond_false])
 rcases key with ⟨k1,k2⟩ | ⟨k1,_⟩
 ·rw [k1];simp only [Y0,Jx.elim];obtain ⟨e,e2,h2⟩:=Z9w hf l1 l2
  rw [e2];simp only [Y0];refine ⟨_,rfl,fun h => ?_⟩
  obtain ⟨p1,p2,p3⟩:=h2 (eq_of_beq h)
  refine ⟨by omega,fun f hm => ?_,by omega,by omega,fun c hm => ?_⟩
  ·obtain ⟨k,hk⟩:=YC hm
   have hnear:=k2 k f hk
   obtain ⟨b,e,hb⟩:=ZBe (hf f hm)
   rw [hnear,Y5] at e;have hN:=hb e.symm
   exact ⟨hf f hm,(p2 f hm).2,hN.small,(p2 f hm).1⟩
  ·obtain ⟨q1,q2,q3,q4⟩:=p3 c hm
   obtain ⟨_,_,hc⟩:=hn
   obtain ⟨_,_,_,hr⟩:=hc.2 c hm
   exact ⟨q1,q2,q3,q4,by have:=hr.1;rw [ZAq] at this;exact this,by have:=hr.2.1;rw [ZAq] at this;exact this⟩
 ·rw [k1];exact ⟨false,rfl,nofun⟩
end Go.Dn

namespace Go.Dn
open Go
theorem own_loop {n:Net} (h:n.Cons.length≤1000):loopO (Z0b.s0 n n.Cons) 0 = some (.go ()):=by
 refine Z0z (I:=fun s r => r = .go ()∧∃ b:Nat,s = (b:Int)∧b≤n.Cons.length) (fun s => n.Cons.length - s.toNat) ?_ ⟨rfl,0,rfl,YM _⟩
 rintro _ r ⟨rfl,b,rfl,hb⟩
 unfold Z0b.s0
 by_cases hlt:b < n.Cons.length
 ·rw [ZP (by omega),cond_true,at?_nat hlt,Y0,Y0,con_beq,ZP rfl,YD,cond_false]
  refine .inl ⟨((b + 1:Nat):Int),?_,⟨rfl,b + 1,rfl,hlt⟩,?_⟩
  ·rw [Z6 (by omega)]
   push_cast
   rfl
  ·omega
 ·have:b = n.Cons.length:=by omega
  subst this;rw [ZQ (by omega),cond_false]
  exact .inr rfl
theorem propOwn_true (n:Net) (rounds:Int) (a b:Range) (hn:n.ok) (hr:okI .i64 rounds) (ha:a.ok) (hb:b.ok):Z0b n rounds a b = some true:=by
 obtain ⟨hf,l1,l2⟩:=net_lim hn
 have haw:Z0U = true:=rfl
 unfold Z0b
 rw [Z8J,Z8J]
 simp only [Y0]
 have hc:(((((a.HasLow || (a.Low == 0)) && (b.HasLow || (b.Low == 0))) && (a.HasHigh || (a.High == 0))) && (b.HasHigh || (b.High == 0))) && ((!(((Z3J a b).1.Low == (Z3J b a).1.Low) && (((Z3J a b).1.High == (Z3J b a).1.High) && (((Z3J a b).1.HasLow == (Z3J b a).1.HasLow) && (((Z3J a b).1.HasHigh == (Z3J b a).1.HasHigh) && true))))) || ((Z3J a b).2 != (Z3J b a).2))) = false:=by
  cases h:((((a.HasLow || (a.Low == 0)) && (b.HasLow || (b.Low == 0))) && (a.HasHigh || (a.High == 0))) && (b.HasHigh || (b.High == 0))) with
  | false => rfl
  | true =>
   simp only [Y9] at h;rw [meet_comm ⟨h.1.1.1,h.1.1.2,h.1.2,h.2⟩]
   simp
 rw [hc,cond_false]
 obtain ⟨e,e1,he⟩:=Z9w hf l1 l2
 rw [e1]
 simp only [Y0]
 cases c1:((((e != 0) && (decide (n.Vars≤30))) && (decide ((n.Cons.length:Int)≤300))) && (decide ((n.Forms.length:Int)≤30))) with
 | true =>
  simp only [Y9] at c1;have hne:(e != 0) = true:=c1.1.1.1
  have r1:Z0C n 1 = some ((Spread.mk 0 (Net.mk 0 [] []) [] 0),230):=by
   unfold Z0C;rw [e1];simp only [Y0];rw [hne,cond_true]
  have r2:Z6O n = some ((Net.mk 0 [] []),[],false,230):=by
   unfold Z6O;rw [e1];simp only [Y0];rw [hne,cond_true]
  rw [cond_true,r1,r2,haw]
  rfl
 | false =>
  rw [cond_false];obtain ⟨bb,e2,hb2⟩:=few_net hn
  rw [e2];simp only [Y0];cases bb with
  | false => rw [Yp,cond_true,haw]
  | true =>
   have hN:=hb2 rfl
   have hnc:=hN.nc
   rw [YD,cond_false,app?_ok (by simp [Z5K];omega),Y0s]
   simp only [Y0];obtain ⟨x9,e9⟩:=ZAm hN.tag (k:=iMax rounds 1001) (by rw [ZAo];omega)
   rw [e9]
   by_cases h1:rounds ≥ 1
   ·obtain ⟨k,hk⟩ : ∃ k:Nat,iMin rounds 30 = k:=⟨(iMin rounds 30).toNat,by rw [Z7w];omega⟩
    have hk2:1≤k∧k≤1000:=by rw [Z7w] at hk;omega
    rw [hk,prop_Run_eq hN hk2.1 hk2.2];simp only [Y0];rw [own_loop (by omega),ZP h1,haw]
    rfl
   ·obtain ⟨x8,e8⟩:=ZAm hN.tag (k:=iMin rounds 30) (by rw [Z7w];omega)
    rw [e8];simp only [Y0];rw [own_loop (by omega),ZQ h1,haw]
    rfl
end Go.Dn
