/- Part 6 of what the row stands on. -/
import Derived.Test.YtobglidemkpmaaaGreatM5
set_option linter.unusedVariables false
set_option linter.unusedSimpArgs false
namespace Go.Dn
open Go
def wl (M:MF):Nat->List Nat->Nat->Option Int
 | i,[],j=>M i j
 | i,v::p,j=>oadd (M i v) (wl M v p j)
variable {M Y:MF} {n:Nat}
theorem Z6F:∀ (p q:List Nat) (i k j:Nat),wl M i (p++k::q) j=oadd (wl M i p k) (wl M k q j)
 | [],q,i,k,j=>rfl
 | v::p,q,i,k,j=>by
  show oadd (M i v) (wl M v (p++k::q) j)=oadd (oadd (M i v) (wl M v p k)) (wl M k q j);rw [Z6F p q v k j,Z6b]
theorem wl_ge (ht:TriM n n Y) (hl:leM n Y M):∀ (p:List Nat) (i j:Nat),(∀ v∈p,v<n)->i<n->j<n->ole (Y i j) (wl M i p j)
 | [],i,j,_,hi,hj=>hl i j hi hj
 | v::p,i,j,hp,hi,hj=>by
  have hv:=hp v (by simp)
  exact Z1R (ht v hv i j hi hj) (Z61 (hl i v hi hv) (wl_ge ht hl p v j (λu hu=>hp u (by simp [hu])) hv hj))
def NoRound (n:Nat) (M:MF):Prop:=∀ v p,v<n->(∀ u∈p,u<n)->ole (some 0) (wl M v p v)
theorem ZBW {a b:Option Int} (h:ole (some 0) a):ole b (oadd a b):=by
 cases a<;>cases b<;>simp [ole,oadd] at *<;>omega
theorem ole_add_r {a b:Option Int} (h:ole (some 0) b):ole a (oadd a b):=by
 cases a<;>cases b<;>simp [ole,oadd] at *<;>omega
theorem ole_add0 {a b:Option Int} (h1:ole (some 0) a) (h:ole (some 0) b):ole (some 0) (oadd a b):=by
 cases a<;>cases b<;>simp [ole,oadd] at *<;>omega
theorem dup_split {p:List Nat} (h:¬ p.Nodup):∃ a b c v,p=a++v::(b++v::c):=by
 induction p with
 | nil=>exact absurd Y1C h
 | cons x p ih=>
  by_cases hx:x∈p
  ·obtain ⟨b,c,rfl⟩:=Y0n hx;exact ⟨[],b,c,x,rfl⟩
  ·have:¬ p.Nodup:=λhn=>h (List.nodup_cons.2 ⟨hx,hn⟩);obtain ⟨a,b,c,v,rfl⟩:=ih this;exact ⟨x::a,b,c,v,rfl⟩
theorem wl_simple (hr:NoRound n M):∀ (k:Nat) (p:List Nat) (i j:Nat),p.length<=k->(∀ v∈p,v<n)->i<n->j<n ->
  ∃ q,q.Nodup/\(∀ v∈q,v<n/\v≠i/\v≠j)/\ole (wl M i q j) (wl M i p j):=by
 intro k
 induction k with
 | zero=>
  intro p i j hk hp hi hj;have:p=[]:=List.length_eq_zero_iff.1 (by omega)
  subst this;exact ⟨[],Y1C,by simp,Z20 _⟩
 | succ k ih=>
  intro p i j hk hp hi hj
  by_cases h1:i∈p
  ·obtain ⟨a,b,rfl⟩:=Y0n h1;obtain ⟨q,q1,q2,q3⟩:=ih b i j (by simp at hk;omega) (λv hv=>hp v (by simp [hv])) hi hj
   refine ⟨q,q1,q2,Z1R q3 ?_⟩;rw [Z6F];exact ZBW (hr i a hi λv hv=>hp v (by simp [hv]))
  by_cases h2:j∈p
  ·obtain ⟨a,b,rfl⟩:=Y0n h2;obtain ⟨q,q1,q2,q3⟩:=ih a i j (by simp at hk;omega) (λv hv=>hp v (by simp [hv])) hi hj
   refine ⟨q,q1,q2,Z1R q3 ?_⟩;rw [Z6F];exact ole_add_r (hr j b hj λv hv=>hp v (by simp [hv]))
  by_cases h3:p.Nodup
  ·exact ⟨p,h3,λv hv=>⟨hp v hv,λe=>h1 (e▸hv),λe=>h2 (e▸hv)⟩,Z20 _⟩
  ·obtain ⟨a,b,c,v,rfl⟩:=dup_split h3;have hv:v<n:=hp v (by simp)
   obtain ⟨q,q1,q2,q3⟩:=ih (a++v::c) i j (by simp at hk ⊢;omega) (λu hu=>hp u (by
    rcases List.mem_append.1 hu with h|h
    ·simp [h]
    ·rcases List.mem_cons.1 h with h|h<;>simp [h])) hi hj
   refine ⟨q,q1,q2,Z1R q3 ?_⟩;rw [Z6F,Z6F,Z6F];exact Z61 (Z20 _) (ZBW (hr v b hv λu hu=>hp u (by simp [hu])))
theorem noRound_of (h:∀ v p,v<n->p.Nodup->(∀ u∈p,u<n/\u≠v)->ole (some 0) (wl M v p v)):NoRound n M:=by
 have key:∀ (k:Nat) (p:List Nat) (v:Nat),p.length<=k->v<n->(∀ u∈p,u<n)->ole (some 0) (wl M v p v):=by
  intro k
  induction k with
  | zero=>
   intro p v hk hv hp;have:p=[]:=List.length_eq_zero_iff.1 (by omega)
   subst this;exact h v [] hv Y1C (by simp)
  | succ k ih=>
   intro p v hk hv hp
   by_cases h1:v∈p
   ·obtain ⟨a,b,rfl⟩:=Y0n h1;rw [Z6F];exact ole_add0 (ih a v (by simp at hk;omega) hv λu hu=>hp u (by simp [hu])) (ih b v (by simp at hk;omega) hv λu hu=>hp u (by simp [hu]))
   by_cases h3:p.Nodup
   ·exact h v p hv h3 λu hu=>⟨hp u hu,λe=>h1 (e▸hu)⟩
   ·obtain ⟨a,b,c,w,rfl⟩:=dup_split h3;have hw:w<n:=hp w (by simp)
    have e1:=ih (a++w::c) v (by simp at hk ⊢;omega) hv (λu hu=>hp u (by
     rcases List.mem_append.1 hu with h|h
     ·simp [h]
     ·rcases List.mem_cons.1 h with h|h<;>simp [h]))
    have e2:=ih b w (by simp at hk ⊢;omega) hw (λu hu=>hp u (by simp [hu]))
    refine Z1R e1 ?_;rw [Z6F,Z6F,Z6F];exact Z61 (Z20 _) (ZBW e2)
 exact λv p hv hp=>key p.length p v (YB _) hv hp
structure Short (n:Nat) (M:MF) (i j:Nat) (x:Option Int):Prop where
 low:∀ p,p.Nodup->(∀ v∈p,v<n/\v≠i/\v≠j)->ole x (wl M i p j)
 real:∃ p,(∀ v∈p,v<n)/\wl M i p j=x
noncomputable def shM (W:MF):MF:=λi j=>if i=j then some 0 else W i j
theorem sh_round {W:MF} (hW:∀ i j,i<n->j<n->Short n M i j (W i j)) (h0:∀ i,i<n->ole (some 0) (W i i)):NoRound n M :=
 noRound_of λv p hv hn hp=>Z1R (h0 v hv) ((hW v v hv hv).low p hn λu hu=>⟨(hp u hu).1,(hp u hu).2,(hp u hu).2⟩)
theorem sh_closed {W:MF} (hW:∀ i j,i<n->j<n->Short n M i j (W i j)) (h0:∀ i,i<n->ole (some 0) (W i i)):TriM n n (shM W)/\DiagM n (shM W)/\leM n (shM W) M:=by
 have hr:=sh_round hW h0
 refine ⟨λm hm i j hi hj=>?_,λi hi=>by simp [shM],λi j hi hj=>?_⟩
 ·by_cases h1:i=m
  ·subst h1;have:shM W i i=some 0:=by simp [shM]
   rw [this,ZBb];exact Z20 _
  by_cases h2:m=j
  ·subst h2;have:shM W m m=some 0:=by simp [shM]
   rw [this,oadd_zero];exact Z20 _
  obtain ⟨p,p1,p2⟩:=(hW i m hi hm).real;obtain ⟨q,q1,q2⟩:=(hW m j hm hj).real;have e1:shM W i m=wl M i p m:=by rw [p2];simp [shM,h1]
  have e2:shM W m j=wl M m q j:=by rw [q2];simp [shM,h2]
  rw [e1,e2,<- Z6F];have hpq:∀ v∈p++m::q,v<n:=λv hv=>by
   rcases List.mem_append.1 hv with h|h
   ·exact p1 v h
   ·rcases List.mem_cons.1 h with rfl|h
    ·exact hm
    ·exact q1 v h
  by_cases h3:i=j
  ·subst h3;have:shM W i i=some 0:=by simp [shM]
   rw [this];exact hr i _ hi hpq
  ·obtain ⟨r,r1,r2,r3⟩:=wl_simple hr _ _ i j (YB _) hpq hi hj;have:shM W i j=W i j:=by simp [shM,h3]
   rw [this];exact Z1R ((hW i j hi hj).low r r1 r2) r3
 ·by_cases h3:i=j
  ·subst h3;have:shM W i i=some 0:=by simp [shM]
   rw [this];exact hr i [] hi (by simp)
  ·have:shM W i j=W i j:=by simp [shM,h3]
   rw [this];exact (hW i j hi hj).low [] Y1C (by simp)
theorem ole_antisymm {a b:Option Int} (h1:ole a b) (h2:ole b a):a=b:=by
 cases a<;>cases b<;>simp [ole] at *<;>omega
theorem sh_eq {W C:MF} {B:Int} (hW:∀ i j,i<n->j<n->Short n M i j (W i j)) (hC:InvC n B M n C):(∀ i,i<n->ole (some 0) (W i i))/\∀ i j,i<n->j<n->C i j=shM W i j:=by
 have lower:∀ i j,i<n->j<n->ole (C i j) (W i j):=λi j hi hj=>by
  obtain ⟨p,p1,p2⟩:=(hW i j hi hj).real;rw [<- p2];exact wl_ge hC.tri hC.le p i j p1 hi hj
 have h0:∀ i,i<n->ole (some 0) (W i i):=λi hi=>by
  have:=lower i i hi hi
  rwa [hC.diag i hi] at this
 refine ⟨h0,λi j hi hj=>?_⟩
 obtain ⟨c1,c2,c3⟩:=sh_closed hW h0
 by_cases h:i=j
 ·subst h;rw [hC.diag i hi];simp [shM]
 ·refine ole_antisymm ?_ (hC.gr _ c1 c2 c3 i j hi hj);have:shM W i j=W i j:=by simp [shM,h]
  rw [this];exact lower i j hi hj
theorem sh_none {W:MF} (hW:∀ i j,i<n->j<n->Short n M i j (W i j)) (hN:NoSol n M):¬ ∀ i,i<n->ole (some 0) (W i i):=λh0=>by
 obtain ⟨c1,c2,c3⟩:=sh_closed hW h0
 exact hN _ c1 c2 c3
end Go.Dn

namespace Go.Dn
open Go
variable {M:MF} {n:Nat}
theorem below_bd (a b:Option Int):Z1d (bd a) (bd b)=olt a b:=by
 cases a<;>cases b<;>rfl
theorem sum24_bd {a b:Option Int} {B:Int} (hB:B<=4611686018427387903) (h1:inB B a) (h2:inB B b):Z00 (bd a) (bd b)=bd (oadd a b):=by
 cases a with
 | none=>rfl
 | some x=>
  cases b with
  | none=>rfl
  | some y=>
   have h3 : -B<=x/\x<=B:=h1;have h4 : -B<=y/\y<=B:=h2;have e:Z00 (bd (some x)) (bd (some y))=⟨0,w64 (x+y)⟩:=rfl;rw [e,Z3 (by omega)]
   rfl
theorem wl_bd {B:Int} (hB0:0<=B) (hB:BdM n M B):∀ (p:List Nat) (i j:Nat),(∀ v∈p,v<n)->i<n->j<n->inB (B*(p.length+1:Nat)) (wl M i p j)
 | [],i,j,_,hi,hj=>by
  have:=hB i j hi hj
  simpa [wl] using this
 | v::p,i,j,hp,hi,hj=>by
  have hv:=hp v (by simp)
  have h1:=hB i v hi hv;have h2:=wl_bd hB0 hB p v j (λu hu=>hp u (by simp [hu])) hv hj
  show inB _ (oadd (M i v) (wl M v p j));have e:B*(((v::p).length+1:Nat):Int)=B*((p.length+1:Nat):Int)+B:=by
   rw [Ye];have:((p.length+1+1:Nat):Int)=((p.length+1:Nat):Int)+1:=by omega
   rw [this,Y0m,Int.mul_one]
  rw [e];generalize B*((p.length+1:Nat):Int)=C at h2 ⊢;cases h:M i v with
  | none=>trivial
  | some x=>
   cases h':wl M v p j with
   | none=>trivial
   | some y=>
    rw [h] at h1;rw [h'] at h2;have h3 : -B<=x/\x<=B:=h1;have h4 : -C<=y/\y<=C:=h2;show -(C+B)<=x+y/\x+y<=C+B;omega
structure Srch (n:Nat) (M:MF) (g:Nat) (met:List Bool) (i j:Nat) (x:Option Int):Prop where
 low:∀ p,p.Nodup->(∀ v∈p,met[v]? = some false/\v≠j)->ole x (wl M i p j)
 real:∃ p,p.length<g/\(∀ v∈p,v<n)/\wl M i p j=x
theorem Srch.inB {g i j:Nat} {met:List Bool} {x:Option Int} {B:Int} (h:Srch n M g met i j x) (hB0:0<=B) (hB:BdM n M B) (hi:i<n) (hj:j<n):inB (B*(g:Nat)) x:=by
 obtain ⟨p,h1,h2,rfl⟩:=h.real
 refine Z6g (wl_bd hB0 hB p i j h2 hi hj) (YT (by omega) hB0)
theorem count_set {met:List Bool} {k:Nat} (h:met[k]? = some false):(met.set k true).count false+1=met.count false:=by
 induction met generalizing k with
 | nil=>simp at h
 | cons b met ih=>
  cases k with
  | zero=>
   simp only [Y0E,Y5] at h;subst h
   simp
  | succ k=>
   have:=ih (k:=k) (by simpa using h)
   cases b<;>simp<;>omega
theorem least_spec {B:Int} (hB0:0<=B) (hB2:B<=288230376151711744) (hn:n<=6) (hB:BdM n M B):∀ (g:Nat) (met:List Bool) (i j:Nat),g<=8->i<n->j<n->met.length=n->met.count false<g ->
  ∃ x,Zk g (Mat n M) (i:Int) (j:Int) met=some (bd x)/\Srch n M g met i j x:=by
 intro g
 induction g with
 | zero=>intro met i j _ _ _ _ h;omega
 | succ g ih=>
  intro met i j hg hi hj hlen hcnt;show ∃ x,Zk.b (Zk g) (Mat n M) (i:Int) (j:Int) met=some (bd x)/\_;unfold Zk.b;simp only [Z2y hi,Z2O hj,Y0];have key:=Z0R (step:=Zk.s0 (Zk g) (Mat n M) (i:Int) (j:Int) met)
   (I:=λs=>∃ (k:Nat) (y:Option Int),s=((k:Int),(bd y).Inf,(bd y).N)/\k<=n/\(∀ p,p.Nodup->(∀ v∈p,met[v]? = some false/\v≠j)->(∀ v∈p.head?,v<k)->ole y (wl M i p j))/\∃ p,p.length<g+1/\(∀ v∈p,v<n)/\wl M i p j=y)
   (λs=>n-s.1.toNat) (λr=>∃ y,r=((bd y).Inf,(bd y).N)/\Srch n M (g+1) met i j y) ?_ (0,(bd (M i j)).Inf,(bd (M i j)).N) ⟨0,M i j,rfl,YI _,?_,[],by simp,by simp,rfl⟩
  ·obtain ⟨r,e,y,rfl,h⟩:=key;exact ⟨y,by rw [e];rfl,h⟩
  ·rintro _ ⟨k,y,rfl,hk,hlow,hreal⟩;unfold Zk.s0;simp only [Z3L]
   by_cases hlt:k<n
   ·rw [ZK (by omega),cond_true]
    have hkm:k<met.length:=by omega
    simp only [at?_nat hkm,Y0]
    by_cases hskip:(met[k]||((k:Int)==(j:Int)))=true
    ·rw [hskip,cond_true];refine .inl ⟨_,rfl,⟨k+1,y,?_,hlt,λp hp hgood hh=>hlow p hp hgood λv hv=>?_,hreal⟩,?_⟩
     ·simp only [];rw [Z3 (by omega)];push_cast;rfl
     ·have h1:=hh v hv;rcases YL v k with h|h
      ·exact h
      ·exfalso
       have e:v=k:=by omega
       subst e;obtain ⟨h2,h3⟩:=hgood v (List.mem_of_mem_head? hv);rw [Y2 hkm,Y5] at h2;rw [h2,Y0D] at hskip;have:(v:Int)=(j:Int):=by simpa using hskip
       omega
     ·simp only [];rw [Z3 (by omega)];omega
    ·rw [Yk] at hskip;rw [hskip,cond_false];rw [Y0W] at hskip;obtain ⟨hmk,hkj⟩:=hskip;have hkj':k≠j:=by
      rintro rfl;simp at hkj
     have hmk':met[k]? = some false:=by rw [Y2 hkm,hmk]
     have hc:=count_set hmk';have hlen':(met.set k true).length=n:=by simpa using hlen
     obtain ⟨z,e1,hz⟩:=ih (met.set k true) k j (by omega) hlt hj hlen' (by omega)
     have zB:=hz.inB hB0 hB hlt hj;have hB8:B*(g:Int)<=B*8:=YT (by omega) hB0
     have zB':inB (B*8) z:=Z6g zB hB8;have mB':inB (B*8) (M i k):=Z6g (hB i k hi hlt) (by omega)
     have hat:at? (met.set k true) (k:Int)=some true:=by
      rw [at?_nat (by simpa using hkm)]
      simp
     have hbk:back? met (k:Int)=some ():=by
      unfold back?;rw [at?_nat hkm,hmk,if_pos rfl]
     have hbe:(Bound.mk (bd y).Inf (bd y).N)=bd y:=by cases y<;>rfl
     simp only [Z2y hi,Z2O hlt,Y0,YH,e1,sum24_bd (by omega) mB' zB',hbe,below_bd,hat,hbk]
     have fin:∀ y',y'=omin (oadd (M i k) z) y->(∀ p,p.Nodup->(∀ v∈p,met[v]? = some false/\v≠j)->(∀ v∈p.head?,v<k+1)->ole y' (wl M i p j))/\∃ p,p.length<g+1/\(∀ v∈p,v<n)/\wl M i p j=y':=by
      rintro y' rfl;refine ⟨λp hp hgood hh=>?_,?_⟩
      ·cases p with
       | nil=>exact Z1R (omin_r _ _) (hlow [] hp hgood (by simp))
       | cons v q=>
        rcases YL v k with h|h
        ·exact Z1R (omin_r _ _) (hlow (v::q) hp hgood (by simpa using h))
        ·have hv:v=k:=by
          have:=hh v (by simp)
          omega
         subst hv;obtain ⟨p1,p2⟩:=List.nodup_cons.1 hp;refine Z1R (omin_l _ _) (Z61 (Z20 _) (hz.low q p2 λu hu=>?_));obtain ⟨u1,u2⟩:=hgood u (by simp [hu])
         refine ⟨?_,u2⟩;rw [Y0f (λe=>p1 (by rw [e];exact hu))]
         exact u1
      ·rcases omin_or (oadd (M i k) z) y with h|h
       ·obtain ⟨q,q1,q2,q3⟩:=hz.real;rw [h];refine ⟨k::q,by simp;omega,λu hu=>?_,by rw [<- q3];rfl⟩
        rcases List.mem_cons.1 hu with rfl|hu
        ·exact hlt
        ·exact q2 u hu
       ·rw [h];exact hreal
     have hpick:=Z9P (oadd (M i k) z) y
     cases hol:olt (oadd (M i k) z) y with
     | true=>
      rw [hol,if_pos rfl] at hpick;obtain ⟨f1,f2⟩:=fin _ rfl;refine .inl ⟨_,rfl,⟨k+1,omin (oadd (M i k) z) y,?_,hlt,f1,f2⟩,?_⟩
      ·rw [hpick];simp only [];rw [Z3 (by omega)];push_cast;rfl
      ·simp only [];rw [Z3 (by omega)];omega
     | false=>
      rw [hol,if_neg (by simp)] at hpick
      obtain ⟨f1,f2⟩:=fin _ rfl;refine .inl ⟨_,rfl,⟨k+1,omin (oadd (M i k) z) y,?_,hlt,f1,f2⟩,?_⟩
      ·rw [hpick];simp only [];rw [Z3 (by omega)];push_cast;rfl
      ·simp only [];rw [Z3 (by omega)];omega
   ·have:k=n:=by omega
    subst this;rw [ZH (by omega),cond_false]
    refine .inr ⟨_,rfl,y,rfl,λp hp hgood=>hlow p hp hgood λv hv=>?_,hreal⟩;have:=(hgood v (List.mem_of_mem_head? hv)).1;have:=(List.getElem?_eq_some_iff.1 this).1;omega
  ·intro p hp hgood hh;cases p with
   | nil=>exact Z20 _
   | cons v q=>exact absurd (hh v (by simp)) (Y0P _)
theorem way_spec {B:Int} (hB0:0<=B) (hB2:B<=288230376151711744) (hn:n<=6) (hB:BdM n M B) {i j:Nat} (hi:i<n) (hj:j<n):∃ x,Z12 (Mat n M) (i:Int) (j:Int)=some (bd x)/\Short n M i j x:=by
 unfold Z12
 have hnew:new? 1 ((Mat n M).length:Int) false=some (List.replicate n false):=by
  unfold new?;rw [Z3L,if_pos ⟨by omega,by rw [Z2z];omega⟩,YH]
 rw [hnew,Y0,at?_nat (by simpa using hi),Y0,YH,Yw,Y0T]
 have hlen:((List.replicate n false).set i true).length=n:=by simp
 obtain ⟨x,e,h⟩:=least_spec hB0 hB2 hn hB (n+1) ((List.replicate n false).set i true) i j (by omega) hi hj hlen (by
  have:=List.count_le_length (a:=false) (l:=(List.replicate n false).set i true);omega)
 refine ⟨x,by rw [e];rfl,⟨λp hp hgood=>h.low p hp λv hv=>?_,?_⟩⟩
 ·obtain ⟨h1,h2,h3⟩:=hgood v hv;refine ⟨?_,h3⟩;rw [Y0f (λe=>h2 e.symm)];simp [h1]
 ·obtain ⟨p,p1,p2,p3⟩:=h.real;exact ⟨p,p2,p3⟩
theorem ways_spec {B:Int} (hB0:0<=B) (hB2:B<=288230376151711744) (hn:n<=6) (hB:BdM n M B):∃ W:MF,∀ i j,i<n->j<n->Z12 (Mat n M) (i:Int) (j:Int)=some (bd (W i j))/\Short n M i j (W i j):=by
 have h:∀ i j,∃ x,i<n->j<n->Z12 (Mat n M) (i:Int) (j:Int)=some (bd x)/\Short n M i j x:=λi j=>by
  by_cases hi:i<n
  ·by_cases hj:j<n
   ·obtain ⟨x,h⟩:=way_spec hB0 hB2 hn hB hi hj;exact ⟨x,λ_ _=>h⟩
   ·exact ⟨none,λ_ h=>absurd h hj⟩
  ·exact ⟨none,λh=>absurd h hi⟩
 exact ⟨λi j=>Classical.choose (h i j),λi j=>Classical.choose_spec (h i j)⟩
theorem refClose_row {W:MF} (hn:n<=6) (hW:∀ i j,i<n->j<n->Z12 (Mat n M) (i:Int) (j:Int)=some (bd (W i j))) {i:Nat} (hi:i<n) (acc:List (List Bound)) :
  loopO (ZY.s1 (Mat n M) ((i:Int),acc)) (0,[])=some (rowM n (shM W) i):=by
 refine Z0B (I:=λs r=>r=rowM n (shM W) i/\∃ j:Nat,s=((j:Int),(List.range j).map λb=>bd (shM W i b))/\j<=n) (λs=>n-s.1.toNat) ?_ ⟨rfl,0,rfl,YI _⟩
 rintro _ r ⟨rfl,j,rfl,hj⟩
 unfold ZY.s1
 simp only [Z3L]
 by_cases hlt:j<n
 ·rw [ZK (by omega),cond_true]
  have happ:∀ b:Bound,app? 16 ((List.range j).map λb=>bd (shM W i b)) [b]=some (((List.range j).map λb=>bd (shM W i b))++[b]):=λb=>app?_ok (by simp [Z2z];omega)
  have hs:∀ b:Bound,b=bd (shM W i j)->((List.range j).map λb=>bd (shM W i b))++[b]=(List.range (j+1)).map λb=>bd (shM W i b):=by
   rintro b rfl;rw [List.range_succ,Ys]
   rfl
  by_cases hij:i=j
  ·subst hij;rw [Z9d rfl,cond_true,happ];simp only [Y0];refine .inl ⟨_,rfl,⟨trivial,i+1,?_,hlt⟩,?_⟩
   ·rw [Z3 (by omega),hs _ (by simp [shM,bd])];push_cast;rfl
   ·simp only [];rw [Z3 (by omega)];omega
  ·rw [Z5p (by omega),cond_false,hW i j hi hlt,Y0,happ]
   simp only [Y0];refine .inl ⟨_,rfl,⟨trivial,j+1,?_,hlt⟩,?_⟩
   ·rw [Z3 (by omega),hs _ (by simp [shM,hij])];push_cast;rfl
   ·simp only [];rw [Z3 (by omega)];omega
 ·have:j=n:=by omega
  subst this;rw [ZH (by omega),cond_false]
  exact .inr rfl
theorem ZC6 {W:MF} (hn:n<=6) (hW:∀ i j,i<n->j<n->Z12 (Mat n M) (i:Int) (j:Int)=some (bd (W i j))) :
  ((∀ i,i<n->olt (W i i) (some 0)=false)/\ZY (Mat n M)=some (Mat n (shM W),true))\/((∃ i,i<n/\olt (W i i) (some 0)=true)/\ZY (Mat n M)=some ([],false)):=by
 have key:=Z0R (step:=ZY.s0 (Mat n M)) (I:=λs=>∃ i:Nat,s=((i:Int),(List.range i).map λa=>rowM n (shM W) a)/\i<=n/\∀ a,a<i->olt (W a a) (some 0)=false) (λs=>n-s.1.toNat)
  (λr=>(r = .go (Mat n (shM W))/\∀ i,i<n->olt (W i i) (some 0)=false)\/(r = .ret ([],false)/\∃ i,i<n/\olt (W i i) (some 0)=true)) ?_ (0,[]) ⟨0,rfl,YI _,λa ha=>absurd ha (Y0P _)⟩
 ·unfold ZY;obtain ⟨r,e,⟨rfl,h⟩|⟨rfl,h⟩⟩:=key
  ·exact .inl ⟨h,by rw [e];rfl⟩
  ·exact .inr ⟨h,by rw [e];rfl⟩
 ·rintro _ ⟨i,rfl,hi,hpos⟩;unfold ZY.s0;simp only [Z3L]
  by_cases hlt:i<n
  ·rw [ZK (by omega),cond_true,hW i i hlt hlt,Y0]
   have hz:(Bound.mk 0 0)=bd (some 0):=rfl
   rw [hz,below_bd];cases hol:olt (W i i) (some 0) with
   | true=>rw [cond_true];exact .inr ⟨_,rfl,.inr ⟨rfl,i,hlt,hol⟩⟩
   | false=>
    rw [cond_false,refClose_row hn hW hlt,Y0,app?_ok (by simp [Z2z];omega),Y0]
    refine .inl ⟨_,rfl,⟨i+1,?_,hlt,λa ha=>?_⟩,?_⟩
    ·rw [Z3 (by omega),List.range_succ,Ys];push_cast;rfl
    ·rcases YL a i with h|h
     ·exact hpos a h
     ·have:a=i:=by omega
      rw [this];exact hol
    ·simp only [];rw [Z3 (by omega)];omega
  ·have:i=n:=by omega
   subst this;rw [ZH (by omega),cond_false]
   exact .inr ⟨_,rfl,.inl ⟨rfl,hpos⟩⟩
theorem olt_zero {a:Option Int}:olt a (some 0)=false↔ole (some 0) a:=by
 cases a<;>simp [olt,ole]
theorem closes_eq {B:Int} (hB0:0<=B) (hB2:B<=1125899906842624) (h1:1<=n) (hn:n<=6) (hB:BdM n M B) :
  ∃ r b,ZQ (Mat n M)=some (r,b,0)/\ZY (Mat n M)=some (r,b)/\(r=[]\/∃ C,r=Mat n C):=by
 obtain ⟨W,hW⟩:=ways_spec hB0 (by omega) hn hB
 have hS:∀ i j,i<n->j<n->Short n M i j (W i j):=λi j hi hj=>(hW i j hi hj).2
 have hpow:∀ k,k<n->B*2 ^ k<=2305843009213693952:=λk hk=>by
  have h3:(2:Nat) ^ k<=2 ^ 6:=Nat.pow_le_pow_right (by omega) (by omega)
  have h4:((2 ^ k:Nat):Int)=(2:Int) ^ k:=by push_cast;rfl
  have h5:(2:Int) ^ k<=64:=by omega
  have:=YT h5 hB0;omega
 rcases close_eq2 hB0 hB2 hpow h1 (by omega) hB with ⟨C,e,hC⟩|⟨e,hN⟩
 ·obtain ⟨h0,hCW⟩:=sh_eq hS hC;rcases ZC6 hn (λi j hi hj=>(hW i j hi hj).1) with ⟨_,e2⟩|⟨⟨i,hi,h⟩,_⟩
  ·refine ⟨_,_,e,?_,.inr ⟨C,rfl⟩⟩;rw [e2,Z5L hCW]
  ·rw [olt_zero.2 (h0 i hi)] at h;cases h
 ·rcases ZC6 hn (λi j hi hj=>(hW i j hi hj).1) with ⟨h0,_⟩|⟨_,e2⟩
  ·exact absurd (λi hi=>olt_zero.1 (h0 i hi)) (sh_none hS hN)
  ·exact ⟨_,_,e,e2,.inl rfl⟩
end Go.Dn

namespace Go.Dn
open Go
variable {n:Nat}
end Go.Dn

namespace Go.Dn
open Go
def lowM (a b:Range):Int×Bool:=if b.HasLow=true/\(a.HasLow=false\/b.Low>a.Low) then (b.Low,b.HasLow) else (a.Low,a.HasLow)
def Z5q (a b:Range):Int×Bool:=if b.HasHigh=true/\(a.HasHigh=false\/b.High<a.High) then (b.High,b.HasHigh) else (a.High,a.HasHigh)
def meetR (a b:Range):Range×Bool:=if (lowM a b).2=true/\(Z5q a b).2=true/\(lowM a b).1>(Z5q a b).1 then (Range.mk 0 0 false false,false) else (Range.mk (lowM a b).1 (Z5q a b).1 (lowM a b).2 (Z5q a b).2,true)
theorem ZAy (a b:Range):Z3s a b=some (meetR a b):=by
 obtain ⟨al,ah,ahl,ahh⟩:=a
 obtain ⟨bl,bh,bhl,bhh⟩:=b
 have e1:Zv (prop_end.mk al ahl) (prop_end.mk bl bhl) (λz0=>some (Z29 z0)) (λz0 z1=>some (Z4U z0 z1))=some (prop_end.mk (lowM ⟨al,ah,ahl,ahh⟩ ⟨bl,bh,bhl,bhh⟩).1 (lowM ⟨al,ah,ahl,ahh⟩ ⟨bl,bh,bhl,bhh⟩).2):=by
  unfold Zv Z29 Z4U lowM;cases bhl<;>cases ahl<;>simp
  by_cases h:al<bl<;>simp [h]
 have e2:Zv (prop_end.mk ah ahh) (prop_end.mk bh bhh) (λz0=>some (Z29 z0)) (λz0 z1=>some (Z4Z z0 z1))=some (prop_end.mk (Z5q ⟨al,ah,ahl,ahh⟩ ⟨bl,bh,bhl,bhh⟩).1 (Z5q ⟨al,ah,ahl,ahh⟩ ⟨bl,bh,bhl,bhh⟩).2):=by
  unfold Zv Z29 Z4Z Z5q;cases bhh<;>cases ahh<;>simp
  by_cases h:bh<ah<;>simp [h]
 unfold Z3s
 rw [e1,e2]
 simp only [Y0]
 unfold meetR
 generalize lowM _ _=p
 generalize Z5q _ _=q
 obtain ⟨p1,p2⟩:=p
 obtain ⟨q1,q2⟩:=q
 cases p2<;>cases q2<;>simp
 by_cases h:q1<p1<;>simp [h]
def Z9G (r:Range):Prop:=(r.HasLow=true\/r.Low=0)/\(r.HasHigh=true\/r.High=0)
def in64R (r:Range):Prop:=In64 r.Low/\In64 r.High
def Z7z (a b:Range):Prop:=(b.HasLow=true->a.HasLow=true/\b.Low<=a.Low)/\(b.HasHigh=true->a.HasHigh=true/\a.High<=b.High)
def inRg (r:Range) (d:Int):Prop:=(r.HasLow=true->r.Low<=d)/\(r.HasHigh=true->d<=r.High)
theorem narrow_refl (a:Range):Z7z a a:=⟨λh=>⟨h,Yi _⟩,λh=>⟨h,Yi _⟩⟩
theorem narrow_trans {a b c:Range} (h1:Z7z a b) (h2:Z7z b c):Z7z a c:=by
 refine ⟨λh=>?_,λh=>?_⟩
 ·obtain ⟨p,q⟩:=h2.1 h;obtain ⟨p',q'⟩:=h1.1 p;exact ⟨p',by omega⟩
 ·obtain ⟨p,q⟩:=h2.2 h;obtain ⟨p',q'⟩:=h1.2 p;exact ⟨p',by omega⟩
theorem inRg_mono {a b:Range} (h:Z7z a b) {d:Int} (hd:inRg a d):inRg b d:=by
 refine ⟨λhb=>?_,λhb=>?_⟩
 ·obtain ⟨p,q⟩:=h.1 hb;have:=hd.1 p;omega
 ·obtain ⟨p,q⟩:=h.2 hb;have:=hd.2 p;omega
theorem ZDj {r:Range}:Z4K r=true↔Z9G r:=by
 unfold Z4K Z9G
 simp
structure NetI (n:Net):Prop where
 vars:0<=n.Vars/\n.Vars<=8
 forms:∀ f∈n.Forms,Lim f/\RightF f/\SmallF f/\Z09 f=some 0
 nf:n.Forms.length<=4
 nc:n.Cons.length<=8
 cons:∀ c∈n.Cons,(0<=c.X/\c.X<n.Vars)/\(0<=c.Y/\c.Y<n.Vars)/\(0<=c.Form/\c.Form<n.Forms.length)/\Z9G c.Range/\in64R c.Range
theorem NetI.right {n:Net} (h:NetI n):RightN n :=
 ⟨⟨h.vars.1,by have:=h.vars.2;omega⟩,λf hf=>⟨(h.forms f hf).1,(h.forms f hf).2.1⟩,λc hc=>⟨(h.cons c hc).1,(h.cons c hc).2.1,(h.cons c hc).2.2.1⟩,by have:=h.nc;omega⟩
theorem NetI.tag {n:Net} (h:NetI n):Z2H n=some 0:=by
 have hv:=h.vars
 have hf:=h.nf
 have hc:=h.nc
 unfold Z2H
 have c1:Z0b n.Vars 25=true:=Z2Y.2 (by omega)
 rw [c1]
 simp only [YD,cond_false]
 rw [ZH (show ¬ (n.Forms.length:Int)>20 by omega)]
 simp only [cond_false,Y0]
 rw [ZH (show ¬ (n.Cons.length:Int)>200 by omega)]
 simp only [cond_false]
 obtain ⟨b1,e1,i1⟩:=Z5m (l:=n.Forms) (f:=λz0=>Z1H z0) (p:=λf=>false) (by omega) (λf hm=>by
  unfold Z1H;rw [(h.forms f hm).2.2.2]
  rfl)
 obtain ⟨b2,e2,i2⟩:=Z6K (l:=n.Cons) (f:=λz0=>some (Z0m z0 n)) (p:=λc=>Z0m c n) (by omega) (λ_ _=>rfl)
 rw [e1]
 simp only [Y0]
 cases b1 with
 | true=>obtain ⟨x,_,hx⟩:=i1.1 rfl;cases hx
 | false=>
 simp only [cond_false]
 rw [e2]
 simp only [Y0]
 cases b2 with
 | true=>
  obtain ⟨c,hm,hx⟩:=i2.1 rfl;obtain ⟨q1,q2,q3,q4,_⟩:=h.cons c hm;unfold Z0m Z3n at hx;rw [Z2Y.2 q1,Z2Y.2 q2,Z2Y.2 q3,ZDj.2 q4] at hx;cases hx
 | false=>rfl
theorem tag_Right_all {n:Net} (hf:∀ f∈n.Forms,Lim f) (l1:(n.Forms.length:Int)<4611686018427387904) (l2:(n.Cons.length:Int)<4611686018427387904):∃ e,Z2H n=some e/\(e=0->(0<=n.Vars/\n.Vars<=24)/\(∀ f∈n.Forms,Z09 f=some 0/\RightF f)/\∀ c∈n.Cons,(0<=c.X/\c.X<n.Vars)/\(0<=c.Y/\c.Y<n.Vars)/\(0<=c.Form/\c.Form<n.Forms.length)/\Z9G c.Range):=by
 unfold Z2H
 cases c1:Z0b n.Vars 25 with
 | false=>exact ⟨230,rfl,λh=>absurd h (by decide)⟩
 | true=>
 simp only [YD,cond_false]
 cases c2:decide ((n.Forms.length:Int)>20) with
 | true=>exact ⟨230,rfl,λh=>absurd h (by decide)⟩
 | false=>
 simp only [cond_false,Y0]
 cases c3:decide ((n.Cons.length:Int)>200) with
 | true=>exact ⟨230,rfl,λh=>absurd h (by decide)⟩
 | false=>
 simp only [cond_false]
 have hfr:∀ f∈n.Forms,Z1H f=some ((Z09 f).getD 0 != 0):=λf hm=>by
  unfold Z1H;rcases Z4C (hf f hm) with ⟨q,h⟩|⟨q,r,h⟩|⟨q,r,h⟩<;>rw [h]<;>rfl
 obtain ⟨b1,e1,i1⟩:=Z5m (l:=n.Forms) (f:=λz0=>Z1H z0) (p:=λf=>(Z09 f).getD 0 != 0) l1 hfr
 obtain ⟨b2,e2,i2⟩:=Z6K (l:=n.Cons) (f:=λz0=>some (Z0m z0 n)) (p:=λc=>Z0m c n) l2 (λ_ _=>rfl)
 rw [e1]
 simp only [Y0]
 cases b1 with
 | true=>exact ⟨230,rfl,λh=>absurd h (by decide)⟩
 | false=>
 simp only [cond_false]
 rw [e2]
 simp only [Y0]
 cases b2 with
 | true=>exact ⟨230,rfl,λh=>absurd h (by decide)⟩
 | false=>
 refine ⟨0,rfl,λ_=>?_⟩
 have v:=Z2Y.1 c1
 refine ⟨by omega,λf hm=>?_,λc hm=>?_⟩
 ·rcases Z4C (hf f hm) with ⟨q,h⟩|⟨q,r,h⟩|⟨q,r,h⟩
  ·have:(false:Bool)=true:=i1.2 ⟨f,hm,by rw [h];rfl⟩
   cases this
  ·exact ⟨h,r⟩
  ·have:(false:Bool)=true:=i1.2 ⟨f,hm,by rw [h];rfl⟩
   cases this
 ·cases hc:Z0m c n with
  | true=>have:=i2.2 ⟨c,hm,hc⟩;cases this
  | false=>
   unfold Z0m Z3n at hc;simp only [Bool.not_eq_false',Y8] at hc;exact ⟨Z2Y.1 hc.1.1.1,Z2Y.1 hc.1.1.2,Z2Y.1 hc.1.2,ZDj.1 hc.2⟩
end Go.Dn

namespace Go.Dn
open Go
def negB:Option Int->Bound
 | none=>Bound.mk (-1) 0
 | some k=>Bound.mk 0 (-k)
theorem minus_bd {a:Option Int} (h:inB 1125899906842624 a):(Z8 (bd a)).1=negB a:=by
 cases a with
 | none=>clear h;decide
 | some k=>
  have hk : -1125899906842624<=k/\k<=1125899906842624:=h;have e1:ZO (bd (some k))=true:=rfl;have e2:Z13 0 (bd (some k)).N=(0-k,0):=by
   rw [show (bd (some k)).N=k from rfl,subF (by unfold In64;omega) (by unfold In64;omega)]
   rcases fit_or (0-k) with ⟨_,h⟩|⟨h,_⟩
   ·exact h
   ·unfold In64 at h;omega
  unfold Z8;rw [e1,e2];simp only [YD,cond_false,bne_self_eq_false];show Bound.mk (IntKind.i8.wrap (0-0)) (0-k)=Bound.mk 0 (-k);rw [show IntKind.i8.wrap (0-0)=0 by decide,Int.zero_sub]
theorem bound_bd {d:Int} (h : -1099511627776<=d/\d<=1099511627776):∃ a,Z8I d=bd a/\inB 1099511627776 a/\∀ z,(d = -1099511627776\/d<=-z)->ole (some z) a:=by
 unfold Z8I
 split
 ·exact ⟨none,rfl,trivial,λ_ _=>trivial⟩
 ·refine ⟨some (-d),rfl,?_,λz hz=>?_⟩
  ·show -1099511627776<=-d/\-d<=1099511627776;omega
  ·show z<=-d;omega
section
variable {f:Form}
noncomputable def distOf (f:Form) (a b:Int):Int×Bool:=(ZBD f a b).getD (0,false)
end
variable {n:Net}
noncomputable def Z2V (n:Net) (c:Con):Form:=n.Forms.getD c.Form.toNat (Form.mk 0 0 [] [])
theorem Z9D {c:Con} (h:0<=c.Form/\c.Form<n.Forms.length):at? n.Forms c.Form=some (Z2V n c)/\Z2V n c∈n.Forms:=by
 have hlt:c.Form.toNat<n.Forms.length:=by omega
 have e:Z2V n c=n.Forms[c.Form.toNat]:=by unfold Z2V;simp [YQ,hlt]
 rw [e]
 exact ⟨at?_lt h.1 h.2,YE hlt⟩
def metS (n:Net) (E:Nat->Int) (c:Con):Prop:=(distOf (Z2V n c) (E c.X.toNat) (E c.Y.toNat)).2=true/\inRg c.Range (distOf (Z2V n c) (E c.X.toNat) (E c.Y.toNat)).1
def HoldS (n:Net) (E:Nat->Int):Prop:=∀ c∈n.Cons,metS n E c
theorem set_if {v:Nat} {M:MF} {i j:Nat} {a:Option Int} (hi:i<v) (hj:j<v) :
  ((at? (Mat v M) (i:Int)).bind λx5=>(at? x5 (j:Int)).bind λx6=>(bif (Z0j (bd a) x6) then (at? (Mat v M) (i:Int)).bind λx7=>(at? x7 (j:Int)).bind λx8=>some ((Mat v M).set ((i:Int)).toNat (x7.set ((j:Int)).toNat (bd a))) else some (Mat v M)))=some (Mat v (setM M i j a)):=by
 simp only [Z2y hi,Z2O hj,Y0,less_bd]
 unfold setM
 rw [Z9P]
 cases h:olt a (M i j) with
 | true=>
  simp only [cond_true,if_true];rw [Mat_set']
 | false=>
  simp only [cond_false];have:(if false=true then a else M i j)=M i j:=by simp
  rw [this]
  congr 1
  refine Z5L λa b _ _=>?_;unfold updM
  split
  ·rename_i hh;rw [hh.1,hh.2]
  ·rfl
theorem newS_eq {v:Nat} (h:v<=24):Z39 (v:Int)=some (Mat v newM,0):=by
 have key:Z4F (v:Int)=some (Mat v newM,0):=by
  by_cases h0:v=0
  ·subst h0;unfold Z4F;rw [ZH (by omega),ZH (by omega),Y14,cond_false]
   have hnew:new? 24 ((0:Nat):Int) ([] : List Bound)=some []:=by
    unfold new?;rw [if_pos ⟨by omega,by simp⟩]
    rfl
   rw [hnew,Y0,Z21];unfold Z4F.s0;rw [ZH (by simp),cond_false]
   rfl
  ·exact stp_New_eq (by omega) h
 have e:Z39 (v:Int)=Z4F (v:Int):=by
  unfold Z39 Z4F;have:((decide ((v:Int)<0))||(decide ((v:Int)>24)))=false:=by
   rw [ZH (by omega),ZH (by omega)]
   rfl
  rw [this,cond_false,cond_false]
  rfl
 rw [e,key]
theorem closeE_eq {v:Nat} {M:MF} (hv:v<=8) (hB:BdM v M 1099511627776) :
  (∃ C,Z1t (Mat v M)=some (Mat v C,true,0)/\BdM v C 1125899906842624/\∀ E,leM v (tm E) M->leM v (tm E) C)\/(Z1t (Mat v M)=some ([],false,0)/\∀ E,¬ leM v (tm E) M):=by
 by_cases h0:v=0
 ·subst h0;exact .inl ⟨M,rfl,λi j hi=>absurd hi (Y0P _),λE _ i j hi=>absurd hi (Y0P _)⟩
 ·have hne:(Mat v M).isEmpty=false:=by
   have:=Z3L (n:=v) (M:=M)
   cases h:Mat v M with
   | nil=>rw [h] at this;simp at this;omega
   | cons a l=>rfl
  have hp:∀ k,k<=v->(1099511627776:Int)*2 ^ k<=1125899906842624:=λk hk=>by
   have h3:(2:Nat) ^ k<=2 ^ 8:=Nat.pow_le_pow_right (by omega) (by omega)
   have h4:((2 ^ k:Nat):Int)=(2:Int) ^ k:=by push_cast;rfl
   omega
  unfold Z1t;rw [hne,cond_false];rcases close_eq2 (by omega) (by omega) (λk hk=>Int.le_trans (hp k (by omega)) (by omega)) (by omega) (by omega) hB with ⟨C,e,hC⟩|⟨e,hN⟩
  ·exact .inl ⟨C,e,λi j hi hj=>Z6g (hC.bd i j hi hj) (hp v (YB _)),λE hE=>hC.gr _ tm_tri tm_diag hE⟩
  ·exact .inr ⟨e,λE hE=>hN _ tm_tri tm_diag hE⟩
end Go.Dn

namespace Go.Dn
open Go
variable {n:Net} {v:Nat} {C:MF}
theorem bad_bd (a b:Option Int):bad (negB a) (bd b)=false:=by
 cases a<;>cases b<;>rfl
structure StepR (n n':Net):Prop where
 vars:n'.Vars=n.Vars
 forms:n'.Forms=n.Forms
 len:n'.Cons.length=n.Cons.length
 cons:∀ (j:Nat) (c:Con),n.Cons[j]? = some c->∃ r,n'.Cons[j]? = some (Con.mk c.X c.Y c.Form r)/\Z7z r c.Range/\Z9G r/\in64R r
theorem StepR.back {n n':Net} (h:StepR n n') {j:Nat} {c':Con} (hj:n'.Cons[j]? = some c'):∃ c,n.Cons[j]? = some c/\∃ r,c'=Con.mk c.X c.Y c.Form r/\Z7z r c.Range/\Z9G r/\in64R r:=by
 have hlt:=(List.getElem?_eq_some_iff.1 hj).1
 have hlt':j<n.Cons.length:=by rw [<- h.len];exact hlt
 obtain ⟨r,q1,q2⟩:=h.cons j _ (Y2 hlt')
 rw [hj,Y5] at q1
 exact ⟨_,Y2 hlt',r,q1,q2⟩
theorem formOf_eq {n n':Net} (h:n'.Forms=n.Forms) {c c':Con} (hc:c'.Form=c.Form):Z2V n' c'=Z2V n c:=by
 unfold Z2V
 rw [h,hc]
theorem StepR.holds {n n':Net} (h:StepR n n') {E:Nat->Int} (hE:HoldS n' E):HoldS n E:=by
 intro c hc
 obtain ⟨j,hj⟩:=YC hc
 obtain ⟨r,q1,q2,_⟩:=h.cons j c hj
 obtain ⟨m1,m2⟩:=hE _ (Y7 q1)
 rw [formOf_eq h.forms (c:=c) (c':=Con.mk c.X c.Y c.Form r) rfl] at m1 m2
 exact ⟨m1,inRg_mono q2 m2⟩
theorem StepR.refl {n:Net} (h:NetI n):StepR n n :=
 ⟨rfl,rfl,rfl,λj c hj=>⟨c.Range,hj,narrow_refl _,(h.cons c (Y7 hj)).2.2.2⟩⟩
theorem StepR.trans {a b c:Net} (h1:StepR a b) (h2:StepR b c):StepR a c:=by
 refine ⟨h2.vars.trans h1.vars,h2.forms.trans h1.forms,h2.len.trans h1.len,λj x hj=>?_⟩
 obtain ⟨r,q1,q2,_⟩:=h1.cons j x hj
 obtain ⟨r',p1,p2,p3⟩:=h2.cons j _ q1
 exact ⟨r',p1,narrow_trans p2 q2,p3⟩
end Go.Dn

namespace Go.Dn
open Go
noncomputable def rF (n:Net):Net×List (List Bound)×Bool:=(Zx n).getD (Net.mk 0 [] [],[],false)
noncomputable def goR:Nat->Net->List (List Bound)->Int->Spread
 | 0,n,d,r=>Spread.mk 3 n d r
 | k+1,n,d,r=>if (rF n).2.2=true then (if (rF n).1.Cons=n.Cons then Spread.mk 1 (rF n).1 (rF n).2.1 (r+1) else goR k (rF n).1 (rF n).2.1 (r+1)) else Spread.mk 2 (Net.mk 0 [] []) [] (r+1)
theorem same26_mat {n:Nat} {C:MF} (hn:n<=24):Z04 (Mat n C) (Mat n C)=some true:=by
 unfold Z04
 rw [bne_f rfl,cond_false]
 have inner:∀ a,a<n->loopO (Z04.s1 (Mat n C) (Mat n C) (a:Int)) 0=some (.go ()):=λa ha=>by
  refine Z0B (I:=λs r=>r = .go ()/\∃ b:Nat,s=(b:Int)/\b<=n) (λs=>n-s.toNat) ?_ ⟨rfl,0,rfl,YI _⟩;rintro _ r ⟨rfl,b,rfl,hb⟩;unfold Z04.s1;rw [Z2y ha,Y0,Z7V]
  by_cases hlt:b<n
  ·rw [ZK (by omega),cond_true]
   simp only [Y0,Z2O hlt,beq_self_eq_true,Y09,YD,cond_false];refine .inl ⟨((b+1:Nat):Int),?_,⟨trivial,b+1,rfl,hlt⟩,?_⟩
   ·rw [Z3 (by omega)]
    push_cast
    rfl
   ·omega
  ·have:b=n:=by omega
   subst this;rw [ZH (by omega),cond_false]
   exact .inr rfl
 have key:loopO (Z04.s0 (Mat n C) (Mat n C)) 0=some (.go ()):=by
  refine Z0B (I:=λs r=>r = .go ()/\∃ b:Nat,s=(b:Int)/\b<=n) (λs=>n-s.toNat) ?_ ⟨rfl,0,rfl,YI _⟩;rintro _ r ⟨rfl,b,rfl,hb⟩;unfold Z04.s0;rw [Z3L]
  by_cases hlt:b<n
  ·rw [ZK (by omega),cond_true,Z2y hlt,Y0,Y0,bne_f rfl,cond_false,inner b hlt]
   refine .inl ⟨((b+1:Nat):Int),?_,⟨rfl,b+1,rfl,hlt⟩,?_⟩
   ·simp only [Y0,Jx.elim];rw [Z3 (by omega)]
    push_cast
    rfl
   ·omega
  ·have:b=n:=by omega
   subst this;rw [ZH (by omega),cond_false]
   exact .inr rfl
 rw [key]
 rfl
theorem few_net {n:Net} (hn:n.ok):∃ b,Zh n=some b/\(b=true->NetI n):=by
 obtain ⟨hf,l1,l2⟩:=net_lim hn
 obtain ⟨b0,e0,h0⟩:=few_eq hn
 unfold Zh at e0 ⊢
 cases c1:((decide ((n.Forms.length:Int)>4)||decide ((n.Cons.length:Int)>8))||decide (n.Vars>8)) with
 | true=>exact ⟨false,rfl,nofun⟩
 | false=>
 simp only [Y0W,decide_eq_false_iff_not] at c1
 simp only [cond_false]
 have key:=Z2d (l:=n.Forms) (step:=Zh.s0 n) (good:=λ_ f=>ZW f=some true) (yes:=.go ()) (no:=.ret false) (by
  intro k f hk _;obtain ⟨hkl,rfl⟩:=List.getElem?_eq_some_iff.1 hk;unfold Zh.s0;rw [ZK (show (k:Int)<n.Forms.length by omega),cond_true,at?_nat hkl]
  simp only [Y0];obtain ⟨b,e,_⟩:=Z7O (hf _ (YE hkl))
  rw [e];simp only [Y0];cases b with
  | false=>exact .inr ⟨rfl,by simp⟩
  | true=>exact .inl ⟨by rw [YD,cond_false,Z3 (by omega)],rfl⟩) (by
  unfold Zh.s0;rw [ZH (by omega),cond_false])
 rcases key with ⟨k1,k2⟩|⟨k1,_⟩
 ·rw [k1];simp only [Y0,Jx.elim];obtain ⟨e,e2,h2⟩:=tag_Right_all hf l1 l2;rw [e2];simp only [Y0];refine ⟨_,rfl,λh=>?_⟩;obtain ⟨p1,p2,p3⟩:=h2 (eq_of_beq h);refine ⟨by omega,λf hm=>?_,by omega,by omega,λc hm=>?_⟩
  ·obtain ⟨k,hk⟩:=YC hm;have hnear:=k2 k f hk;obtain ⟨b,e,hb⟩:=Z7O (hf f hm);rw [hnear,Y5] at e;have hN:=hb e.symm;exact ⟨hf f hm,(p2 f hm).2,hN.small,(p2 f hm).1⟩
  ·obtain ⟨q1,q2,q3,q4⟩:=p3 c hm;obtain ⟨_,_,hc⟩:=hn;obtain ⟨_,_,_,hr⟩:=hc.2 c hm;exact ⟨q1,q2,q3,q4,by have:=hr.1;rw [okI_i64] at this;exact this,by have:=hr.2.1;rw [okI_i64] at this;exact this⟩
 ·rw [k1];exact ⟨false,rfl,nofun⟩
end Go.Dn

namespace Go.Dn
open Go
theorem meet26_eq (a b:Range):Z1y a b=some (meetR a b):=by
 have e1:(bif (b.HasLow&&((!a.HasLow)||(decide (b.Low>a.Low)))) then some (b.Low,true) else some (a.Low,a.HasLow))=some (lowM a b):=by
  unfold lowM
  by_cases h:b.HasLow=true/\(a.HasLow=false\/b.Low>a.Low)
  ·rw [if_pos h];have:(b.HasLow&&((!a.HasLow)||(decide (b.Low>a.Low))))=true:=by
    simp only [Y8,Yf,YP,decide_eq_true_eq];exact h
   rw [this,h.1];rfl
  ·rw [if_neg h];have:(b.HasLow&&((!a.HasLow)||(decide (b.Low>a.Low))))=false:=by
    rw [Bool.eq_false_iff];intro hh;simp only [Y8,Yf,YP,decide_eq_true_eq] at hh;exact h hh
   rw [this];rfl
 have e2:(bif (b.HasHigh&&((!a.HasHigh)||(decide (b.High<a.High)))) then some (b.High,true) else some (a.High,a.HasHigh))=some (Z5q a b):=by
  unfold Z5q
  by_cases h:b.HasHigh=true/\(a.HasHigh=false\/b.High<a.High)
  ·rw [if_pos h];have:(b.HasHigh&&((!a.HasHigh)||(decide (b.High<a.High))))=true:=by
    simp only [Y8,Yf,YP,decide_eq_true_eq];exact h
   rw [this,h.1];rfl
  ·rw [if_neg h];have:(b.HasHigh&&((!a.HasHigh)||(decide (b.High<a.High))))=false:=by
    rw [Bool.eq_false_iff];intro hh;simp only [Y8,Yf,YP,decide_eq_true_eq] at hh;exact h hh
   rw [this];rfl
 unfold Z1y
 rw [e1,e2]
 simp only [Y0]
 unfold meetR
 by_cases h:(lowM a b).2=true/\(Z5q a b).2=true/\(lowM a b).1>(Z5q a b).1
 ·rw [if_pos h];have:(((lowM a b).2&&(Z5q a b).2)&&(decide ((lowM a b).1>(Z5q a b).1)))=true:=by
   rw [h.1,h.2.1,ZK h.2.2];rfl
  rw [this];rfl
 ·rw [if_neg h];have:(((lowM a b).2&&(Z5q a b).2)&&(decide ((lowM a b).1>(Z5q a b).1)))=false:=by
   rw [Bool.eq_false_iff];intro hh;simp only [Y8,decide_eq_true_eq] at hh;exact h ⟨hh.1.1,hh.1.2,hh.2⟩
  rw [this];rfl
structure NetN (n:Net):Prop where
 net:NetI n
 near:∀ f∈n.Forms,NearF0 f
 five:n.Vars<=5
 ends:∀ c∈n.Cons,(-200<=c.Range.Low/\c.Range.Low<=200)/\(-200<=c.Range.High/\c.Range.High<=200)
theorem few_near {n:Net} (hn:n.ok) (h:Zh n=some true):∀ f∈n.Forms,NearF0 f:=by
 obtain ⟨hf,l1,l2⟩:=net_lim hn
 unfold Zh at h
 cases c1:((decide ((n.Forms.length:Int)>4)||decide ((n.Cons.length:Int)>8))||decide (n.Vars>8)) with
 | true=>rw [c1] at h;cases h
 | false=>
 rw [c1] at h
 simp only [Y0W,decide_eq_false_iff_not] at c1
 simp only [cond_false] at h
 have key:=Z2d (l:=n.Forms) (step:=Zh.s0 n) (good:=λ_ f=>ZW f=some true) (yes:=.go ()) (no:=.ret false) (by
  intro k f hk _;obtain ⟨hkl,rfl⟩:=List.getElem?_eq_some_iff.1 hk;unfold Zh.s0;rw [ZK (show (k:Int)<n.Forms.length by omega),cond_true,at?_nat hkl]
  simp only [Y0];obtain ⟨b,e,_⟩:=Z7O (hf _ (YE hkl))
  rw [e];simp only [Y0];cases b with
  | false=>exact .inr ⟨rfl,by simp⟩
  | true=>exact .inl ⟨by rw [YD,cond_false,Z3 (by omega)],rfl⟩) (by
  unfold Zh.s0;rw [ZH (by omega),cond_false])
 rcases key with ⟨k1,k2⟩|⟨k1,_⟩
 ·intro f hm;obtain ⟨k,hk⟩:=YC hm;have hnear:=k2 k f hk;obtain ⟨b,e,hb⟩:=Z7O (hf f hm);rw [hnear,Y5] at e;exact hb e.symm
 ·rw [k1] at h;cases h
theorem few26_eq {n:Net} (hn:n.ok):∃ b,Z0p n=some b/\(b=true->NetN n):=by
 obtain ⟨b0,e0,h0⟩:=few_net hn
 unfold Z0p
 rw [e0]
 simp only [Y0]
 cases b0 with
 | false=>exact ⟨false,rfl,nofun⟩
 | true=>
 have hN:=h0 rfl
 have hnear:=few_near hn e0
 by_cases h5:n.Vars>5
 ·rw [ZK h5];exact ⟨false,rfl,nofun⟩
 rw [ZH h5]
 simp only [YD,Y0X,cond_false]
 have hnc:=hN.nc
 rcases Z2d (l:=n.Cons) (step:=Z0p.s0 n) (good:=λ_ c=>(-200<=c.Range.Low/\c.Range.Low<=200)/\(-200<=c.Range.High/\c.Range.High<=200)) (yes:=.go ()) (no:=.ret false) (by
  intro k c hk _;obtain ⟨hkl,rfl⟩:=List.getElem?_eq_some_iff.1 hk;unfold Z0p.s0;rw [ZK (show (k:Int)<n.Cons.length by omega),cond_true,at?_nat hkl]
  simp only [Y0]
  by_cases hb:(n.Cons[k].Range.Low>200\/n.Cons[k].Range.Low < -200)\/(n.Cons[k].Range.High>200\/n.Cons[k].Range.High < -200)
  ·right
   refine ⟨?_,λh=>by omega⟩
   have:((((decide (n.Cons[k].Range.Low>200))||(decide (n.Cons[k].Range.Low<(-200))))||(decide (n.Cons[k].Range.High>200)))||(decide (n.Cons[k].Range.High<(-200))))=true:=by
    simp only [Yf,decide_eq_true_eq];omega
   rw [this,cond_true]
  ·left
   have:((((decide (n.Cons[k].Range.Low>200))||(decide (n.Cons[k].Range.Low<(-200))))||(decide (n.Cons[k].Range.High>200)))||(decide (n.Cons[k].Range.High<(-200))))=false:=by
    rw [Bool.eq_false_iff];simp only [ne_eq,Yf,decide_eq_true_eq];omega
   rw [this,cond_false,Z3 (by omega)]
   exact ⟨rfl,by omega⟩) (by
  unfold Z0p.s0;rw [ZH (by omega),cond_false]) with ⟨k1,k2⟩|⟨k1,_⟩
 ·rw [k1];refine ⟨true,rfl,λ_=>⟨hN,hnear,by omega,λc hc=>?_⟩⟩
  obtain ⟨k,hk⟩:=YC hc;exact k2 k c hk
 ·rw [k1];exact ⟨false,rfl,nofun⟩
def oB (b:Bound):Option Int:=if b.Inf=1 then none else some b.N
theorem oB_bd (a:Option Int):oB (bd a)=a:=by cases a<;>rfl
noncomputable def hiA (n:Net) (c:Con):Option Int:=if c.Range.HasHigh=true then oB ((Z3H (Z2V n c) c.Range.High).getD (Bound.mk 0 0)) else none
noncomputable def loA (n:Net) (c:Con):Option Int:=if c.Range.HasLow=true then oB ((Z8 ((Z36 (Z2V n c) c.Range.Low).getD (Bound.mk 0 0))).1) else none
noncomputable def Z3D (n:Net):Nat->MF
 | 0=>newM
 | k+1=>match n.Cons[k]? with
  | some c=>setM (setM (Z3D n k) c.X.toNat c.Y.toNat (hiA n c)) c.Y.toNat c.X.toNat (loA n c)
  | none=>Z3D n k
theorem high25 {f:Form} (h:NearF0 f) {n:Int} (hn : -200<=n/\n<=200):∃ d,Z1V f n=some (Z8I d)/\Z3H f n=some (Z8I d)/\-1099511627776<=d/\d<=1099511627776:=by
 obtain ⟨d,d1,d2,d3⟩:=ZB9 h (m:=-n) (by omega)
 refine ⟨d,?_,?_,d3.1,d3.2.1⟩
 ·unfold Z1V;rw [Z3 (by omega),show 0-n = -n by omega,d1]
  simp only [Y0];rw [neg_bound ⟨d3.1,d3.2.1⟩]
 ·unfold Z3H;rw [iMax_eq,show max n (-4611686018427387904)=n by omega,Z3 (by omega),show 0-n = -n by omega,d2]
  simp only [Y0];rw [ZCA ⟨d3.1,d3.2.1⟩]
structure ConT (n:Net) (c:Con):Prop where
 ticks:∃ lo,Z3e (Z2V n c) c.Range=some (lo,bd (hiA n c))/\(Z8 lo).1=bd (loA n c)
 hi:inB 1099511627776 (hiA n c)
 lo:inB 1099511627776 (loA n c)
 high:c.Range.HasHigh=true->Z1V (Z2V n c) c.Range.High=some (bd (hiA n c))
 low:c.Range.HasLow=true->∃ b,Z16 (Z2V n c) c.Range.Low=some b/\Bound.mk (IntKind.i8.wrap (0-b.Inf)) (w64 (0-b.N))=bd (loA n c)
theorem con_t {n:Net} (h:NetN n) {c:Con} (hc:c∈n.Cons):ConT n c:=by
 obtain ⟨_,_,hf,_,_⟩:=h.net.cons c hc
 obtain ⟨_,f2⟩:=Z9D hf
 have hn:=h.near _ f2
 obtain ⟨hl,hh⟩:=h.ends c hc
 have hH:c.Range.HasHigh=true->Z1V (Z2V n c) c.Range.High=some (bd (hiA n c))/\Z3H (Z2V n c) c.Range.High=some (bd (hiA n c))/\inB 1099511627776 (hiA n c):=λe=>by
  obtain ⟨d,d1,d2,d3,d4⟩:=high25 hn hh;obtain ⟨a,a1,a2,_⟩:=bound_bd ⟨d3,d4⟩;have:hiA n c=a:=by
   unfold hiA;rw [if_pos e,d2];show oB (Z8I d)=a;rw [a1,oB_bd]
  rw [this,d1,d2,a1];exact ⟨rfl,rfl,a2⟩
 have hL:c.Range.HasLow=true->∃ b,Z16 (Z2V n c) c.Range.Low=some b/\Z36 (Z2V n c) c.Range.Low=some b/\(Z8 b).1=bd (loA n c)/\Bound.mk (IntKind.i8.wrap (0-b.Inf)) (w64 (0-b.N))=bd (loA n c)/\inB 1099511627776 (loA n c):=λe=>by
  obtain ⟨d,d1,d2,d3⟩:=ZB9 hn hl;obtain ⟨a,a1,a2,_⟩:=bound_bd ⟨d3.1,d3.2.1⟩;have hm:(Z8 (Z5n d)).1=bd a:=by rw [ZCA ⟨d3.1,d3.2.1⟩];exact a1
  have:loA n c=a:=by
   unfold loA;rw [if_pos e,d2];show oB (Z8 (Z5n d)).1=a;rw [hm,oB_bd]
  rw [this];exact ⟨_,d1,d2,hm,by rw [neg_bound ⟨d3.1,d3.2.1⟩];exact a1,a2⟩
 have n1:¬ c.Range.HasHigh=true->hiA n c=none:=λe=>by unfold hiA;rw [if_neg e]
 have n2:¬ c.Range.HasLow=true->loA n c=none:=λe=>by unfold loA;rw [if_neg e]
 refine ⟨?_,?_,?_,λe=>(hH e).1,λe=>?_⟩
 ·unfold Z3e
  by_cases e1:c.Range.HasLow=true
  ·obtain ⟨b,_,q2,q3,_⟩:=hL e1;rw [e1,q2]
   by_cases e2:c.Range.HasHigh=true
   ·rw [e2,(hH e2).2.1];exact ⟨b,rfl,q3⟩
   ·rw [n1 e2,Yk _ |>.mp e2];exact ⟨b,rfl,q3⟩
  ·rw [n2 e1,Yk _ |>.mp e1]
   by_cases e2:c.Range.HasHigh=true
   ·rw [e2,(hH e2).2.1];exact ⟨Bound.mk (-1) 0,rfl,by decide⟩
   ·rw [n1 e2,Yk _ |>.mp e2];exact ⟨Bound.mk (-1) 0,rfl,by decide⟩
 ·by_cases e:c.Range.HasHigh=true
  ·exact (hH e).2.2
  ·rw [n1 e];trivial
 ·by_cases e:c.Range.HasLow=true
  ·obtain ⟨_,_,_,_,_,q⟩:=hL e;exact q
  ·rw [n2 e];trivial
 ·obtain ⟨b,q1,_,_,q4,_⟩:=hL e;exact ⟨b,q1,q4⟩
theorem setM_none {M:MF} {i j:Nat}:setM M i j none=M:=by
 funext a b
 unfold setM updM
 split
 ·rename_i hh;rw [hh.1,hh.2];cases M i j<;>rfl
 ·rfl
theorem lower_bd (a b:Option Int):ZX (bd a) (bd b)=bd (omin a b):=by
 cases a with
 | none=>cases b<;>rfl
 | some x=>
  cases b with
  | none=>rfl
  | some y=>
   unfold ZX;show (bif ((false)||(true&&decide (y<=x))) then bd (some y) else bd (some x))=_;unfold omin
   by_cases hxy:y<=x
   ·rw [ZK hxy];show bd (some y)=bd (some (if x<y then x else y));rw [if_neg (by omega)]
   ·rw [ZH hxy];show bd (some x)=bd (some (if x<y then x else y));rw [if_pos (by omega)]
theorem tick_bd {n:Net} (h:NetN n) {v:Nat} (hv:n.Vars=v):∀ k,BdM v (Z3D n k) 1099511627776
 | 0=>λi j hi hj=>Z6g (newM_bd v i j hi hj) (by omega)
 | k+1=>by
  have ih:=tick_bd h hv k
  unfold Z3D;cases hc:n.Cons[k]? with
  | none=>exact ih
  | some c=>
   have hm:=Y7 hc;obtain ⟨q1,q2,_⟩:=h.net.cons c hm;have t:=con_t h hm;exact setM_bd (setM_bd ih (by omega) (by omega) t.hi) (by omega) (by omega) t.lo
theorem Z7X {n:Net} (h:NetN n) {v:Nat} (hv:n.Vars=v):Z1N n=some (Mat v (Z3D n n.Cons.length)):=by
 have hnc:=h.net.nc
 have h5:=h.five
 unfold Z1N
 rw [hv,newS_eq (by omega)]
 simp only [Y0]
 have key:loopO (Z1N.s0 n) (0,Mat v newM)=some (Mat v (Z3D n n.Cons.length)):=by
  refine Z0B (I:=λs r=>r=Mat v (Z3D n n.Cons.length)/\∃ k:Nat,s=((k:Int),Mat v (Z3D n k))/\k<=n.Cons.length) (λs=>n.Cons.length-s.1.toNat) ?_ ⟨rfl,0,rfl,YI _⟩;rintro _ r ⟨rfl,k,rfl,hk⟩;unfold Z1N.s0;simp only []
  by_cases hlt:k<n.Cons.length
  ·left
   rw [ZK (show (k:Int)<(n.Cons.length:Int) by omega),cond_true,at?_nat hlt]
   have hmem:n.Cons[k]∈n.Cons:=YE hlt;obtain ⟨⟨x0,x1⟩,⟨y0,y1⟩,hf,_,_⟩:=h.net.cons _ hmem;obtain ⟨f1,f2⟩:=Z9D hf;have t:=con_t h hmem;obtain ⟨lo,e1,e3⟩:=t.ticks;obtain ⟨X,hX⟩ : ∃ X:Nat,n.Cons[k].X=X:=⟨n.Cons[k].X.toNat,by omega⟩
   obtain ⟨Y,hY⟩ : ∃ Y:Nat,n.Cons[k].Y=Y:=⟨n.Cons[k].Y.toNat,by omega⟩
   have hXv:X<v:=by omega
   have hYv:Y<v:=by omega
   have ht:Z3D n (k+1)=setM (setM (Z3D n k) X Y (hiA n n.Cons[k])) Y X (loA n n.Cons[k]):=by
    show (match n.Cons[k]? with|some c=>setM (setM (Z3D n k) c.X.toNat c.Y.toNat (hiA n c)) c.Y.toNat c.X.toNat (loA n c)|none=>Z3D n k)=_
    rw [Y2 hlt];simp only;rw [hX,hY]
    rfl
   simp only [Y0,f1,e1,hX,hY,e3];have s1:=set_if (M:=Z3D n k) (a:=hiA n n.Cons[k]) hXv hYv;have s2:=set_if (M:=setM (Z3D n k) X Y (hiA n n.Cons[k])) (a:=loA n n.Cons[k]) hYv hXv;refine ⟨(((k+1:Nat):Int),Mat v (Z3D n (k+1))),?_,⟨(by first|rfl|trivial),k+1,rfl,hlt⟩,by simp only [];omega⟩
   rw [s1];simp only [Y0];rw [s2];simp only [Y0];rw [Z3 (by omega),ht]
   push_cast
   rfl
  ·right
   have:k=n.Cons.length:=by omega
   subst this;rw [ZH (by omega),cond_false]
 rw [key]
 rfl
theorem Z8d {α:Type} (g:Nat->α) (k:Nat):(List.range k).map g++[g k]=(List.range (k+1)).map g:=by rw [List.range_succ,Ys];rfl
theorem ZCU {n:Net} (h:NetN n) {v:Nat} (hv:n.Vars=v):ZC n=some (Mat v (Z3D n n.Cons.length)):=by
 have hnc:=h.net.nc
 have h5:=h.five
 have hro:=Z2z
 unfold ZC
 rw [hv]
 by_cases h0:0<v
 case neg=>
  have hv0:v=0:=by omega
  subst hv0;rw [ZH (by omega),cond_false]
  have hnil:n.Cons=[]:=by
   rw [List.eq_nil_iff_forall_not_mem];intro c hc;have:=(h.net.cons c hc).1;omega
  have l4:loopO (ZC.s4 n) 0=some ():=by
   rw [Z21];unfold ZC.s4;rw [hnil,ZH (by simp),cond_false]
  rw [l4]
  rfl
 rw [ZK (show (0:Int)<(v:Int) by omega),cond_true]
 have b0:Bound.mk 0 0=bd (some 0):=rfl
 have b1:Bound.mk 1 0=bd none:=rfl
 have l0:loopO (ZC.s0 n) (0,[])=some (rowM v newM 0):=by
  refine Z0B (I:=λs r=>r=rowM v newM 0/\∃ k:Nat,s=((k:Int),(List.range k).map λ(j:Nat)=>bd (newM 0 j))/\k<=v) (λs=>v-s.1.toNat) ?_ ⟨rfl,0,rfl,YI _⟩;rintro _ r ⟨rfl,k,rfl,hk⟩;unfold ZC.s0;simp only [];rw [hv]
  by_cases hlt:k<v
  ·left
   refine ⟨(((k+1:Nat):Int),(List.range (k+1)).map λ(j:Nat)=>bd (newM 0 j)),?_,⟨(by first|rfl|trivial),k+1,rfl,hlt⟩,by simp only [];omega⟩
   rw [ZK (show (k:Int)<v by omega),cond_true,Z3 (by omega),<- Z8d]
   by_cases hik:(0:Int)=k
   ·have:k=0:=by omega
    subst this
    rfl
   ·rw [Z5p hik,cond_false,app?_ok (by simp only [YJ,Y0I,Y05];omega)]
    have:newM 0 k=none:=if_neg (by omega)
    rw [this,b1];simp only [Y0];push_cast
    rfl
  ·right
   have:k=v:=by omega
   subst this;rw [ZH (by omega),cond_false]
   rfl
 have l2:∀ (i:Nat) (x:List (List Bound)),i<v->loopO (ZC.s2 n ((i:Int),x)) (0,[])=some (rowM v newM i):=λi x hi=>by
  refine Z0B (I:=λs r=>r=rowM v newM i/\∃ k:Nat,s=((k:Int),(List.range k).map λ(j:Nat)=>bd (newM i j))/\k<=v) (λs=>v-s.1.toNat) ?_ ⟨rfl,0,rfl,YI _⟩;rintro _ r ⟨rfl,k,rfl,hk⟩;unfold ZC.s2;simp only [];rw [hv]
  by_cases hlt:k<v
  ·left
   refine ⟨(((k+1:Nat):Int),(List.range (k+1)).map λ(j:Nat)=>bd (newM i j)),?_,⟨(by first|rfl|trivial),k+1,rfl,hlt⟩,by simp only [];omega⟩
   rw [ZK (show (k:Int)<v by omega),cond_true,Z3 (by omega),<- Z8d]
   by_cases hik:(i:Int)=k
   ·have:newM i k=some 0:=if_pos (by omega)
    rw [Z9d hik,cond_true,app?_ok (by simp only [YJ,Y0I,Y05];omega),this,b0]
    simp only [Y0];push_cast
    rfl
   ·have:newM i k=none:=if_neg (by omega)
    rw [Z5p hik,cond_false,app?_ok (by simp only [YJ,Y0I,Y05];omega),this,b1]
    simp only [Y0];push_cast
    rfl
  ·right
   have:k=v:=by omega
   subst this;rw [ZH (by omega),cond_false]
   rfl
 have l1:loopO (ZC.s1 n) (w64 (0+1),[rowM v newM 0])=some (Mat v newM):=by
  refine Z0B (I:=λs r=>r=Mat v newM/\∃ k:Nat,s=((k:Int),(List.range k).map λ(i:Nat)=>rowM v newM i)/\k<=v) (λs=>v-s.1.toNat) ?_ ⟨rfl,1,by rw [Z3 (by omega)];rfl,h0⟩
  rintro _ r ⟨rfl,k,rfl,hk⟩;unfold ZC.s1;simp only [];rw [hv]
  by_cases hlt:k<v
  ·left
   refine ⟨(((k+1:Nat):Int),(List.range (k+1)).map λ(i:Nat)=>rowM v newM i),?_,⟨(by first|rfl|trivial),k+1,rfl,hlt⟩,by simp only [];omega⟩
   rw [ZK (show (k:Int)<v by omega),cond_true,l2 k _ hlt,Z3 (by omega),<- Z8d]
   simp only [Y0];rw [app?_ok (by simp only [YJ,Y0I,Y05];omega)]
   simp only [Y0];push_cast
   rfl
  ·right
   have:k=v:=by omega
   subst this;rw [ZH (by omega),cond_false]
   rfl
 rw [l0]
 simp only [Y0]
 rw [app?_ok (by simp only [Yn,Y05];omega)]
 simp only [Y0,Y0o]
 rw [l1]
 simp only [Y0]
 have l3:loopO (ZC.s3 n) (0,Mat v newM)=some (Mat v (Z3D n n.Cons.length)):=by
  refine Z0B (I:=λs r=>r=Mat v (Z3D n n.Cons.length)/\∃ k:Nat,s=((k:Int),Mat v (Z3D n k))/\k<=n.Cons.length) (λs=>n.Cons.length-s.1.toNat) ?_ ⟨rfl,0,rfl,YI _⟩;rintro _ r ⟨rfl,k,rfl,hk⟩;unfold ZC.s3;simp only []
  by_cases hlt:k<n.Cons.length
  ·left
   rw [ZK (show (k:Int)<(n.Cons.length:Int) by omega),cond_true,at?_nat hlt]
   have hmem:n.Cons[k]∈n.Cons:=YE hlt;obtain ⟨⟨x0,x1⟩,⟨y0,y1⟩,hf,_,_⟩:=h.net.cons _ hmem;obtain ⟨f1,f2⟩:=Z9D hf;have t:=con_t h hmem;obtain ⟨X,hX⟩ : ∃ X:Nat,n.Cons[k].X=X:=⟨n.Cons[k].X.toNat,by omega⟩
   obtain ⟨Y,hY⟩ : ∃ Y:Nat,n.Cons[k].Y=Y:=⟨n.Cons[k].Y.toNat,by omega⟩
   have hXv:X<v:=by omega
   have hYv:Y<v:=by omega
   have ht:Z3D n (k+1)=setM (setM (Z3D n k) X Y (hiA n n.Cons[k])) Y X (loA n n.Cons[k]):=by
    show (match n.Cons[k]? with|some c=>setM (setM (Z3D n k) c.X.toNat c.Y.toNat (hiA n c)) c.Y.toNat c.X.toNat (loA n c)|none=>Z3D n k)=_
    rw [Y2 hlt];simp only;rw [hX,hY]
    rfl
   have thi:=t.high;have tlo:=t.low;have nhi:n.Cons[k].Range.HasHigh=false->hiA n n.Cons[k]=none:=λe=>by unfold hiA;rw [if_neg (by rw [e];simp)]
   have nlo:n.Cons[k].Range.HasLow=false->loA n n.Cons[k]=none:=λe=>by unfold loA;rw [if_neg (by rw [e];simp)]
   simp only [Y0,f1,hX,hY];refine ⟨(((k+1:Nat):Int),Mat v (Z3D n (k+1))),?_,⟨(by first|rfl|trivial),k+1,rfl,hlt⟩,by simp only [];omega⟩
   rw [Z3 (by omega),ht]
   generalize Z3D n k=A at *
   generalize hiA n n.Cons[k]=a at *
   generalize loA n n.Cons[k]=b at *
   have put:∀ (A:MF) (i j:Nat) (a:Option Int),i<v->(Mat v A).set ((i:Int)).toNat ((rowM v A i).set ((j:Int)).toNat (ZX (bd a) (bd (A i j))))=Mat v (setM A i j a):=λA i j a hi=>by
    rw [lower_bd];exact Mat_set' _
   have hhi:(bif n.Cons[k].Range.HasHigh then ((rowM v A X |> some).bind λx9=>(Z1V (Z2V n n.Cons[k]) n.Cons[k].Range.High).bind λx10=>(some (rowM v A X)).bind λx11=>(at? x11 (Y:Int)).bind λx12=>(at? x9 (Y:Int)).bind λx13=>some ((Mat v A).set ((X:Int)).toNat (x9.set ((Y:Int)).toNat (ZX x10 x12)))) else some (Mat v A))=some (Mat v (setM A X Y a)):=by
    cases e:n.Cons[k].Range.HasHigh with
    | false=>rw [nhi e,setM_none];rfl
    | true=>
     rw [thi e];simp only [cond_true,Y0,Z2O hYv,put A X Y a hXv]
   have hlo:∀ A:MF,(bif n.Cons[k].Range.HasLow then ((Z16 (Z2V n n.Cons[k]) n.Cons[k].Range.Low).bind λx14=>(at? (Mat v A) (Y:Int)).bind λx15=>(at? (Mat v A) (Y:Int)).bind λx16=>(at? x16 (X:Int)).bind λx17=>(at? x15 (X:Int)).bind λx18=>some ((Mat v A).set ((Y:Int)).toNat (x15.set ((X:Int)).toNat (ZX (Bound.mk (IntKind.i8.wrap (0-x14.Inf)) (w64 (0-x14.N))) x17)))) else some (Mat v A))=some (Mat v (setM A Y X b)):=λA=>by
    cases e:n.Cons[k].Range.HasLow with
    | false=>rw [nlo e,setM_none];rfl
    | true=>
     obtain ⟨q,q1,q2⟩:=tlo e;rw [q1];simp only [cond_true,Y0,Z2y hYv,Z2O hXv,q2,put A Y X b hYv]
   simp only [Z2y hXv] at *
   rw [hhi];simp only [Y0];rw [hlo];simp only [Y0];push_cast
   rfl
  ·right
   have:k=n.Cons.length:=by omega
   subst this;rw [ZH (by omega),cond_false]
 rw [l3]
 rfl
end Go.Dn

namespace Go.Dn
open Go
theorem close26 {v:Nat} {M:MF} (hv:v<=5) (hB:BdM v M 1099511627776) :
  (∃ C,Z1t (Mat v M)=some (Mat v C,true,0)/\ZY (Mat v M)=some (Mat v C,true)/\BdM v C 1125899906842624)\/(Z1t (Mat v M)=some ([],false,0)/\∃ r,ZY (Mat v M)=some (r,false)):=by
 by_cases h0:v=0
 ·subst h0;refine .inl ⟨M,rfl,?_,λi j hi=>absurd hi (Y0P _)⟩;show ZY []=some ([],true);unfold ZY;rw [Z21]
  rfl
 ·have hne:(Mat v M).isEmpty=false:=by
   have:=Z3L (n:=v) (M:=M)
   cases h:Mat v M with
   | nil=>rw [h] at this;simp at this;omega
   | cons a l=>rfl
  have hE:Z1t (Mat v M)=ZQ (Mat v M):=by
   unfold Z1t;rw [hne,cond_false]
  obtain ⟨r,b,e1,e2,_⟩:=closes_eq (n:=v) (M:=M) (B:=1099511627776) (by omega) (by omega) (by omega) (by omega) hB
  rcases closeE_eq (show v<=8 by omega) hB with ⟨C,e,hC,_⟩|⟨e,_⟩
  ·rw [hE,e1] at e;simp only [Y5,Y3] at e;obtain ⟨rfl,rfl,_⟩:=e;exact .inl ⟨C,by rw [hE,e1],e2,hC⟩
  ·rw [hE,e1] at e;simp only [Y5,Y3] at e;obtain ⟨rfl,rfl,_⟩:=e;exact .inr ⟨by rw [hE,e1],_,e2⟩
noncomputable def Z2Q (n:Net) (C:MF) (c:Con):Range×Bool:=match Z2C (Z2V n c) (negB (C c.Y.toNat c.X.toNat)) (bd (C c.X.toNat c.Y.toNat)) with
 | some (r,true,_)=>meetR c.Range r
 | _=>(Range.mk 0 0 false false,false)
theorem neg26 {a:Option Int} (h:inB 1125899906842624 a):Bound.mk (IntKind.i8.wrap (0-(bd a).Inf)) (w64 (0-(bd a).N))=negB a:=by
 cases a with
 | none=>clear h;decide
 | some k=>
  have hk : -1125899906842624<=k/\k<=1125899906842624:=h;show Bound.mk (IntKind.i8.wrap (0-0)) (w64 (0-k))=Bound.mk 0 (-k);rw [show IntKind.i8.wrap (0-0)=0 by decide,Z3 (by omega),Int.zero_sub]
section
variable {n:Net} {v:Nat} {C:MF}
theorem ZCw (h:NetI n) {c:Con} (hc:c∈n.Cons) (hv:n.Vars=v) (hB:BdM v C 1125899906842624):∃ r ok,Z2C (Z2V n c) (negB (C c.Y.toNat c.X.toNat)) (bd (C c.X.toNat c.Y.toNat))=some (r,ok,0)/\Z2Q n C c=if ok=true then meetR c.Range r else (Range.mk 0 0 false false,false):=by
 obtain ⟨_,_,hf,_,_⟩:=h.cons c hc
 obtain ⟨_,f2⟩:=Z9D hf
 obtain ⟨g1,g2,g3,_⟩:=h.forms _ f2
 obtain ⟨r1,ok1,e1,_⟩:=ZDp g1 g2 g3.few (bad_bd (C c.Y.toNat c.X.toNat) (C c.X.toNat c.Y.toNat))
 refine ⟨r1,ok1,e1,?_⟩
 unfold Z2Q
 rw [e1]
 cases ok1<;>rfl
theorem back26 (h:NetI n) {c:Con} (hc:c∈n.Cons) (hv:n.Vars=v) (hB:BdM v C 1125899906842624) {N:Net} (hF:N.Forms=n.Forms):Z5K N c (Mat v C)=some (Z2Q n C c):=by
 obtain ⟨⟨x0,x1⟩,⟨y0,y1⟩,hf,_,_⟩:=h.cons c hc
 obtain ⟨f1,f2⟩:=Z9D hf
 obtain ⟨r,ok,e1,e2⟩:=ZCw h hc hv hB
 obtain ⟨X,hX⟩ : ∃ X:Nat,c.X=X:=⟨c.X.toNat,by omega⟩
 obtain ⟨Y,hY⟩ : ∃ Y:Nat,c.Y=Y:=⟨c.Y.toNat,by omega⟩
 have hXv:X<v:=by omega
 have hYv:Y<v:=by omega
 rw [e2]
 rw [hX,hY,YH,YH] at e1
 unfold Z5K
 rw [hX,hY,hF]
 simp only [Z2y hYv,Z2y hXv,Z2O hXv,Z2O hYv,Y0,f1,minus_bd (hB Y X hYv hXv),e1]
 cases ok with
 | false=>rfl
 | true=>
  simp only [YD,bne_self_eq_false,Y14,cond_false,ZAy,Y0,if_true]
theorem round26 (h:NetN n) (hv:n.Vars=v) (hB:BdM v C 1125899906842624) (hC:Z1t (Mat v (Z3D n n.Cons.length))=some (Mat v C,true,0)) :
  ((∀ c∈n.Cons,(Z2Q n C c).2=true)/\Zx n=some (Net.mk n.Vars n.Forms (n.Cons.map λc=>Con.mk c.X c.Y c.Form (Z2Q n C c).1),Mat v C,true))\/((¬ ∀ c∈n.Cons,(Z2Q n C c).2=true)/\Zx n=some (Net.mk 0 [] [],[],false)):=by
 have hnc:=h.net.nc
 have hro:=Z2z
 unfold Zx
 rw [Z7X h hv]
 simp only [Y0]
 rw [hC]
 simp only [Y0,YD,cond_false]
 cases hce:n.Cons.isEmpty with
 | true=>
  have hnil:n.Cons=[]:=List.isEmpty_iff.1 hce;have hl:loopO (Zx.s0 n) ()=some ():=by
   rw [Z21];unfold Zx.s0;rw [hnil,ZH (by simp),cond_false]
  rw [cond_true,hl]
  left
  refine ⟨λc hc=>(by rw [hnil] at hc;cases hc),?_⟩
  obtain ⟨V,F,Cs⟩:=n;simp only at hnil;subst hnil
  rfl
 | false=>
  rw [cond_false];have hcl:Z0g n.Cons=some n.Cons:=by
   unfold Z0g;have hs:∃ u,some? n.Cons=some u:=by
    cases hh:n.Cons with
    | nil=>rw [hh] at hce;cases hce
    | cons a l=>exact ⟨(),rfl⟩
   obtain ⟨u,hu⟩:=hs;rw [hu,Y0,app?_ok (by simp only [Yn];omega)]
   rfl
  rw [hcl];simp only [Y0];have key:=Z0R (step:=Zx.s1 n (Mat v C,true,0) n.Cons)
   (λs=>∃ k:Nat,k<=n.Cons.length/\s=((k:Int),((n.Cons.take k).map λc=>Con.mk c.X c.Y c.Form (Z2Q n C c).1)++n.Cons.drop k)/\∀ c∈n.Cons.take k,(Z2Q n C c).2=true)
   (λs=>n.Cons.length-s.1.toNat)
   (λr=>(r = .go (n.Cons.map λc=>Con.mk c.X c.Y c.Form (Z2Q n C c).1)/\∀ c∈n.Cons,(Z2Q n C c).2=true)\/(r = .ret (Net.mk 0 [] [],[],false)/\¬ ∀ c∈n.Cons,(Z2Q n C c).2=true)) (by
   rintro _ ⟨k,hk,rfl,hall⟩;unfold Zx.s1;simp only []
   by_cases hlt:k<n.Cons.length
   ·have hmem:n.Cons[k]∈n.Cons:=YE hlt;have hat:at? (((n.Cons.take k).map λc=>Con.mk c.X c.Y c.Form (Z2Q n C c).1)++n.Cons.drop k) (k:Int)=some n.Cons[k]:=by
     have hl1:((n.Cons.take k).map λc=>Con.mk c.X c.Y c.Form (Z2Q n C c).1).length=k:=by simp;omega
     rw [at?_nat (by simp only [YR,Y0A,hl1];omega)]
     congr 1
     rw [List.getElem_append_right (by omega)]
     simp only [hl1,Y13,List.getElem_drop,Y0z]
    rw [ZK (show (k:Int)<(n.Cons.length:Int) by omega),cond_true,hat]
    simp only [Y0];rw [back26 h.net hmem hv hB (by rfl)]
    simp only [Y0];cases hb:(Z2Q n C n.Cons[k]).2 with
    | false=>
     right
     rw [Yx,cond_true];exact ⟨_,rfl,.inr ⟨rfl,λhh=>by rw [hh _ hmem] at hb;cases hb⟩⟩
    | true=>
     left
     rw [YD,cond_false];refine ⟨_,rfl,⟨k+1,hlt,?_,λc hc=>?_⟩,by simp only [];rw [Z3 (by omega)];omega⟩
     ·rw [Z3 (by omega),YH]
      have hl1:((n.Cons.take k).map λc=>Con.mk c.X c.Y c.Form (Z2Q n C c).1).length=k:=by simp;omega
      have e1:((n.Cons.take k).map λc=>Con.mk c.X c.Y c.Form (Z2Q n C c).1)++n.Cons.drop k=((n.Cons.take k).map λc=>Con.mk c.X c.Y c.Form (Z2Q n C c).1)++(n.Cons[k]::n.Cons.drop (k+1)):=by
       rw [<- Y0Q hlt]
      rw [e1,Y0b _ _ (by omega),hl1,Y13,List.set_cons_zero]
      have e2:(n.Cons.take (k+1))=n.Cons.take k++[n.Cons[k]]:=(Yd hlt).symm;rw [e2,Ys,Yu];push_cast
      rfl
     ·rw [<- Yd hlt] at hc;rcases List.mem_append.1 hc with hc|hc
      ·exact hall c hc
      ·rw [YM] at hc;subst hc;exact hb
   ·right
    have hke:k=n.Cons.length:=by omega
    subst hke;rw [ZH (by omega),cond_false,Yl,List.drop_length,YK]
    rw [Yl] at hall;exact ⟨_,rfl,.inl ⟨rfl,hall⟩⟩) (0,n.Cons) ⟨0,YI _,rfl,λc hc=>by cases hc⟩
  obtain ⟨r,e,hr⟩:=key;rw [e];rcases hr with ⟨rfl,hall⟩|⟨rfl,hno⟩
  ·exact .inl ⟨hall,rfl⟩
  ·exact .inr ⟨hno,rfl⟩
theorem range_beq (r:Range):((r.Low==r.Low)&&((r.High==r.High)&&((r.HasLow==r.HasLow)&&((r.HasHigh==r.HasHigh)&&true))))=true:=by simp
end
theorem ZDF (a b:Range) (n:Net) (ha:a.ok) (hb:b.ok) (hn:n.ok):Zf a b n=some true:=by
 have hawake:Z0U=true:=rfl
 unfold Zf
 have h1:(bif ((((a.HasLow||(a.Low==0))&&(a.HasHigh||(a.High==0)))&&(b.HasLow||(b.Low==0)))&&(b.HasHigh||(b.High==0))) then
   (Z3s a b).bind λx1=>
   (Z1y a b).bind λx2=>
   (bif ((!((x1.1.Low==x2.1.Low)&&((x1.1.High==x2.1.High)&&((x1.1.HasLow==x2.1.HasLow)&&((x1.1.HasHigh==x2.1.HasHigh)&&true)))))||(x1.2 != x2.2)) then
    some (.ret false)
   else
    some (.go ()))
  else
   some (.go ()))=some (.go ():Jx Unit Bool):=by
  rw [ZAy,meet26_eq];simp only [Y0,range_beq,YD,bne_self_eq_false,Y14,cond_false];cases ((((a.HasLow||(a.Low==0))&&(a.HasHigh||(a.High==0)))&&(b.HasLow||(b.Low==0)))&&(b.HasHigh||(b.High==0)))<;>rfl
 rw [h1]
 simp only [Y0,Jx.elim]
 obtain ⟨w,e3,i3⟩:=few26_eq hn
 rw [e3]
 simp only [Y0]
 cases w with
 | false=>rfl
 | true=>
 have h:=i3 rfl
 simp only [YD,cond_false]
 have h5:=h.five
 have hnc:=h.net.nc
 have hro:=Z2z
 obtain ⟨v,hv⟩ : ∃ v:Nat,n.Vars=v:=⟨n.Vars.toNat,by have:=h.net.vars.1;omega⟩
 have hv5:v<=5:=by omega
 have hB:=tick_bd h hv n.Cons.length
 have hR:∀ x,Zx n=some x->Z5G n=some (x.1,x.2.1,x.2.2,0):=λx hx=>by
  unfold Z5G;rw [h.net.tag];simp only [Y0,bne_self_eq_false,cond_false];rw [hx]
  rfl
 have hT:=ZCU h hv
 rcases close26 hv5 hB with ⟨C,c1,c2,hBC⟩|⟨c1,r,c2⟩
 case inr=>
  have hround:Zx n=some (Net.mk 0 [] [],[],false):=by
   unfold Zx;rw [Z7X h hv];simp only [Y0];rw [c1]
   rfl
  have hcl:Z1a n=some (r,false):=by
   unfold Z1a;rw [hT];simp only [Y0];rw [c2]
   rfl
  rw [hR _ hround,hcl]
  rfl
 have hcl:Z1a n=some (Mat v C,true):=by
  unfold Z1a;rw [hT];simp only [Y0];rw [c2]
  rfl
 obtain ⟨x4,e4,ok4⟩ : ∃ x4:Net×(List (List Bound))×Bool×Int,Z5G n=some x4/\(((∀ c∈n.Cons,(Z2Q n C c).2=true)/\x4=(Net.mk n.Vars n.Forms (n.Cons.map λc=>Con.mk c.X c.Y c.Form (Z2Q n C c).1),Mat v C,true,0))\/((¬ ∀ c∈n.Cons,(Z2Q n C c).2=true)/\x4=(Net.mk 0 [] [],[],false,0))):=by
  rcases round26 h hv hBC c1 with ⟨p,q⟩|⟨p,q⟩
  ·exact ⟨_,hR _ q,.inl ⟨p,rfl⟩⟩
  ·exact ⟨_,hR _ q,.inr ⟨p,rfl⟩⟩
 rw [e4,hcl]
 simp only [Y0]
 have hx4:x4.2.2.2=0:=by rcases ok4 with ⟨_,rfl⟩|⟨_,rfl⟩<;>rfl
 rw [hx4]
 simp only [bne_self_eq_false,cond_false,YD]
 have hnew:new? 24 (n.Cons.length:Int) (Range.mk 0 0 false false)=some (List.replicate n.Cons.length (Range.mk 0 0 false false)):=by
  unfold new?;rw [if_pos ⟨by omega,by rw [YH];omega⟩,YH]
 rw [hnew]
 simp only [Y0]
 obtain ⟨z,l0,hz⟩:=Z0R (step:=Zf.s0 n x4 (Mat v C,true))
  (λs=>∃ (k:Nat) (L:List Range),k<=n.Cons.length/\s=((k:Int),L)/\L.length=n.Cons.length/\∀ (j:Nat) (c:Con),n.Cons[j]? = some c->j<k->L[j]? = some (Z2Q n C c).1/\(Z2Q n C c).2=true)
  (λs=>n.Cons.length-s.1.toNat)
  (λr=>(∃ L,r = .go L/\L.length=n.Cons.length/\∀ (j:Nat) (c:Con),n.Cons[j]? = some c->L[j]? = some (Z2Q n C c).1/\(Z2Q n C c).2=true)\/(r = .ret (((!x4.2.2.1)&&((x4.2.1.length:Int)==0))&&Z0U)/\¬ ∀ c∈n.Cons,(Z2Q n C c).2=true)) (by
  rintro _ ⟨k,L,hk,rfl,hL,hall⟩;unfold Zf.s0;simp only []
  by_cases hlt:k<n.Cons.length
  ·have hmem:n.Cons[k]∈n.Cons:=YE hlt;obtain ⟨⟨x0,x1⟩,⟨y0,y1⟩,hf,_,_⟩:=h.net.cons _ hmem;obtain ⟨f1,f2⟩:=Z9D hf;obtain ⟨r,ok,q1,q2⟩:=ZCw h.net hmem hv hBC;obtain ⟨X,hX⟩ : ∃ X:Nat,n.Cons[k].X=X:=⟨n.Cons[k].X.toNat,by omega⟩
   obtain ⟨Y,hY⟩ : ∃ Y:Nat,n.Cons[k].Y=Y:=⟨n.Cons[k].Y.toNat,by omega⟩
   have hXv:X<v:=by omega
   have hYv:Y<v:=by omega
   rw [hX,hY,YH,YH] at q1;rw [ZK (show (k:Int)<(n.Cons.length:Int) by omega),cond_true,at?_nat hlt]
   simp only [Y0,hX,hY,Z2y hYv,Z2y hXv,Z2O hXv,Z2O hYv,f1,neg26 (hBC Y X hYv hXv),q1,bne_self_eq_false,cond_false];cases ok with
   | false=>
    right
    refine ⟨_,rfl,.inr ⟨rfl,λhh=>?_⟩⟩;have:=hh _ hmem;rw [q2] at this;cases this
   | true=>
    have q2:Z2Q n C n.Cons[k]=meetR n.Cons[k].Range r:=q2;simp only [cond_true,meet26_eq,Y0];rw [at?_nat (show k<L.length by omega)]
    simp only [Y0];cases hm:(meetR n.Cons[k].Range r).2 with
    | false=>
     right
     refine ⟨_,rfl,.inr ⟨rfl,λhh=>?_⟩⟩;have:=hh _ hmem;rw [q2,hm] at this;cases this
    | true=>
     left
     refine ⟨_,rfl,⟨k+1,L.set k (meetR n.Cons[k].Range r).1,hlt,?_,by simpa using hL,λj c hj hjk=>?_⟩,?_⟩
     ·rw [Z3 (by omega),YH]
      push_cast
      rfl
     ·by_cases hjk':j=k
      ·subst hjk';rw [Y2 hlt,Y5] at hj;subst hj;rw [List.getElem?_set_self (by omega),q2]
       exact ⟨rfl,hm⟩
      ·rw [Y0f (by omega)]
       exact hall j c hj (by omega)
     ·simp only [];rw [Z3 (by omega)]
      omega
  ·right
   have hke:k=n.Cons.length:=by omega
   subst hke;rw [ZH (by omega),cond_false]
   exact ⟨_,rfl,.inl ⟨L,rfl,hL,λj c hj=>hall j c hj (List.getElem?_eq_some_iff.1 hj).1⟩⟩) (0,List.replicate n.Cons.length (Range.mk 0 0 false false)) ⟨0,_,YI _,rfl,by simp,λj c _ hj=>absurd hj (Y0P _)⟩
 rw [l0]
 rcases hz with ⟨L,rfl,hL,hall⟩|⟨rfl,hno⟩
 case inr=>
  rcases ok4 with ⟨p,_⟩|⟨_,rfl⟩
  ·exact absurd p hno
  ·rfl
 have hyes:∀ c∈n.Cons,(Z2Q n C c).2=true:=λc hc=>by
  obtain ⟨j,hj⟩:=YC hc;exact (hall j c hj).2
 rcases ok4 with ⟨_,rfl⟩|⟨p,_⟩
 case inr=>exact absurd hyes p
 simp only [Y0,Jx.elim,YD,cond_false]
 rw [same26_mat (by omega)]
 simp only [Y0,YD,Y0D,bne_self_eq_false,Y0X,YJ]
 rw [hL,bne_f rfl,cond_false]
 have l1:loopO (Zf.s1 n (Net.mk n.Vars n.Forms (n.Cons.map λc=>Con.mk c.X c.Y c.Form (Z2Q n C c).1),Mat v C,true,0) L) 0=some (.go ()):=by
  refine Z0B (I:=λs r=>r = .go ()/\∃ k:Nat,s=(k:Int)/\k<=n.Cons.length) (λs=>n.Cons.length-s.toNat) ?_ ⟨rfl,0,rfl,YI _⟩;rintro _ r ⟨rfl,k,rfl,hk⟩;unfold Zf.s1;simp only [YJ]
  by_cases hlt:k<n.Cons.length
  ·left
   have hb:=(hall k _ (Y2 hlt)).1;have hLk:k<L.length:=by omega
   have hat2:at? L (k:Int)=some (Z2Q n C n.Cons[k]).1:=by
    rw [at?_nat hLk,<- hb,Y2 hLk]
   have hat1:at? (n.Cons.map λc=>Con.mk c.X c.Y c.Form (Z2Q n C c).1) (k:Int)=some (Con.mk n.Cons[k].X n.Cons[k].Y n.Cons[k].Form (Z2Q n C n.Cons[k]).1):=by
    rw [at?_nat (by rw [YJ];exact hlt)]
    simp
   rw [ZK (show (k:Int)<(n.Cons.length:Int) by omega),cond_true,hat1,hat2,at?_nat hlt]
   simp only [Y0,range_beq,YD,cond_false,bne_self_eq_false];exact ⟨_,rfl,⟨(by first|rfl|trivial),k+1,by rw [Z3 (by omega)];push_cast;rfl,hlt⟩,by rw [Z3 (by omega)];omega⟩
  ·right
   have:k=n.Cons.length:=by omega
   subst this;rw [ZH (by omega),cond_false]
 rw [l1]
 rfl
end Go.Dn
