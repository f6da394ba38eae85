/- Part 3 of what the row stands on. -/
import Derived.KernelRfl
import Derived.Test.YtcfdfhbclakbpaaDoorM2
set_option linter.unusedVariables false
set_option linter.unusedSimpArgs false
namespace Go.Dn
open Go
theorem and3 (x:Int):iAnd .i64 x 3=x % 4:=by
 have h2:(BitVec.ofInt 64 3).toNat=2 ^ 2-1:=by decide
 have h:(BitVec.ofInt 64 x &&& BitVec.ofInt 64 3).toNat=(x % 18446744073709551616).toNat % 4:=by
  rw [BitVec.toNat_and,h2,Nat.and_two_pow_sub_one_eq_mod,BitVec.toNat_ofInt]
  rfl
 show IntKind.i64.wrap _=_
 rw [wrap_i64]
 have hb:(IntKind.i64.bits)=64:=rfl
 rw [hb,h]
 omega
theorem and15 (x:Int):iAnd .i64 x 15=x % 16:=by
 have h2:(BitVec.ofInt 64 15).toNat=2 ^ 4-1:=by decide
 have h:(BitVec.ofInt 64 x &&& BitVec.ofInt 64 15).toNat=(x % 18446744073709551616).toNat % 16:=by
  rw [BitVec.toNat_and,h2,Nat.and_two_pow_sub_one_eq_mod,BitVec.toNat_ofInt]
  rfl
 show IntKind.i64.wrap _=_
 rw [wrap_i64]
 have hb:(IntKind.i64.bits)=64:=rfl
 rw [hb,h]
 omega
theorem tdm (n b:Int) (hb:0<b):(0<=n/\n.tdiv b=n / b/\n.tmod b=n % b)\/(n<0/\n % b=0/\n.tdiv b=n / b/\n.tmod b=0)\/(n<0/\0<n % b/\n.tdiv b=n / b+1/\n.tmod b=n % b-b):=by
 have hm:0<=n % b:=Int.emod_nonneg n (by omega)
 have hs:b.sign=1:=Int.sign_eq_one_of_pos hb
 have hab:(b.natAbs:Int)=b:=Int.natAbs_of_nonneg (by omega)
 rcases Int.lt_or_le n 0 with h|h
 ·rw [Int.tdiv_eq_ediv,Int.tmod_eq_emod]
  by_cases h0:b∣n
  ·refine .inr (.inl ⟨h,Int.emod_eq_zero_of_dvd h0,?_,?_⟩)
   ·rw [if_pos (.inr h0)];omega
   ·rw [if_pos (.inr h0),Int.emod_eq_zero_of_dvd h0];rfl
  ·have:n % b≠0:=λe=>h0 (Int.dvd_of_emod_eq_zero e);refine .inr (.inr ⟨h,by omega,?_,?_⟩)
   ·rw [if_neg (by rintro (h1|h1);omega;exact h0 h1),hs]
   ·rw [if_neg (by rintro (h1|h1);omega;exact h0 h1),hab]
 ·exact .inl ⟨h,Yu h,Yc h⟩
def Small (x:Int):Prop:=-4611686018427387904<=x/\x<=4611686018427387904
theorem Z1y {n b:Int} (hn:Small n) (hb:0<b) (hb2:b<=4611686018427387904):Z0o n b=some (n / b,n % b):=by
 unfold Small at hn
 have hq : -4611686018427387904<=n / b/\n / b<=4611686018427387904:=by
  have h1:=Int.ediv_mul_add_emod n b;have h2:=Int.emod_nonneg n (show b≠0 by omega)
  have h3:=Int.emod_lt_of_pos n hb
  constructor
  ·refine Int.not_lt.1 λh=>?_;have h4:n / b*b<=(-4611686018427387904-1)*b:=Int.mul_le_mul_of_nonneg_right (by omega) (by omega)
   have h5:(-4611686018427387904-1)*b = -4611686018427387904*b-b:=by rw [Int.sub_mul,Int.one_mul]
   have h6:4611686018427387904*1<=4611686018427387904*b:=Int.mul_le_mul_of_nonneg_left (by omega) (by omega)
   have h7 : -4611686018427387904*b = -(4611686018427387904*b):=by rw [Int.neg_mul]
   omega
  ·refine Int.not_lt.1 λh=>?_;have h4:(4611686018427387904+1)*b<=n / b*b:=Int.mul_le_mul_of_nonneg_right (by omega) (by omega)
   have h5:(4611686018427387904+1)*b=4611686018427387904*b+b:=by rw [Int.add_mul,Int.one_mul]
   have h6:4611686018427387904*1<=4611686018427387904*b:=Int.mul_le_mul_of_nonneg_left (by omega) (by omega)
   omega
 have hm:0<=n % b:=Int.emod_nonneg n (by omega)
 have hm2:n % b<b:=Int.emod_lt_of_pos n hb
 unfold Z0o
 rw [nz?_ok (by omega)]
 simp only [Y6]
 rcases tdm n b hb with ⟨_,h1,h2⟩|⟨_,h0,h1,h2⟩|⟨_,h0,h1,h2⟩
 ·rw [Z0B (by omega)]
  simp only [cond_false,Y6,h1,h2];rw [ZJ (by omega)]
 ·rw [Z0B (by omega)]
  simp only [cond_false,Y6,h1,h2,h0];rw [ZJ (by omega)]
 ·rw [Z0a (by omega)]
  simp only [cond_true,Y6,h1,h2];rw [ZJ (x:=n / b+1) (by omega),ZJ (x:=n / b+1-1) (by omega),ZJ (x:=n % b-b+b) (by omega)]
  simp only [Int.add_sub_cancel,Int.sub_add_cancel]
def Bg (y:Int):Int:=365*(y-1)+(y-1) / 4-(y-1) / 100+(y-1) / 400-719162
def Lp (y:Int):Bool:=decide (y % 4=0)&&(decide (y % 100≠0)||decide (y % 400=0))
def Up (y:Int) (k:Nat):Int:=Z1G.getD k 0+(bif decide (2<=k)&&Lp y then 1 else 0)
theorem Z5h {y:Int} (hy : -100000<=y/\y<=100000):Z17 y=some (Bg y):=by
 unfold Z17 Bg
 have e1:w64 (y-1)=y-1:=ZJ (by omega)
 rw [e1,Z1y (by unfold Small;omega) (by omega) (by omega),Z1y (by unfold Small;omega) (by omega) (by omega),Z1y (by unfold Small;omega) (by omega) (by omega)]
 simp only [Y6]
 rw [ZJ (x:=365*(y-1)) (by omega),ZJ (x:=365*(y-1)+(y-1) / 4) (by omega),ZJ (x:=365*(y-1)+(y-1) / 4-(y-1) / 100) (by omega),ZJ (x:=365*(y-1)+(y-1) / 4-(y-1) / 100+(y-1) / 400) (by omega),ZJ (by omega)]
theorem civil_Leap_eq (y:Int):Z1M y=Lp y:=by
 unfold Z1M Lp
 rw [and3,and15]
 have e:(y % 4=0/\(y.tmod 25≠0\/y % 16=0))↔(y % 4=0/\(y % 100≠0\/y % 400=0)):=by
  rcases tdm y 25 (by omega) with ⟨_,_,h⟩|⟨_,_,_,h⟩|⟨_,_,_,h⟩<;>rw [h]<;>omega
 rw [Bool.eq_iff_iff]
 simp only [YB,Ye,beq_iff_eq,bne_iff_ne,ne_eq,decide_eq_true_eq]
 exact e
theorem glob_at {k:Nat} (hk:k<=12):at? Z1G (k:Int)=some (Z1G.getD k 0)/\0<=Z1G.getD k 0/\Z1G.getD k 0<=365:=by
 match k,hk with
 | 0,_|1,_|2,_|3,_|4,_|5,_|6,_|7,_|8,_|9,_|10,_|11,_|12,_=>exact ⟨rfl,by decide,by decide⟩
 | k+13,h=>omega
theorem Up_bd (y:Int) {k:Nat} (hk:k<=12):0<=Up y k/\Up y k<=366:=by
 have:=(glob_at hk).2
 unfold Up
 cases decide (2<=k)&&Lp y<;>simp only [cond_true,cond_false]<;>omega
theorem Z2H (y:Int) {k:Nat} (hk:k<=12):Z10 y (k:Int)=some (Up y k):=by
 unfold Z10
 have hb:=Up_bd y hk
 rw [(glob_at hk).1,Y6]
 have e:Z1G.getD k 0+Z1z y (k:Int)=Up y k:=by
  unfold Z1z Up;rw [civil_Leap_eq,show decide ((k:Int)>=2)=decide (2<=k) from decide_eq_decide.2 (by omega)]
 rw [e,ZJ (by omega)]
theorem Z1i (y:Int) {k:Nat} (h1:1<=k) (hk:k<=12):Z0w y (k:Int)=some (Up y k-Up y (k-1)):=by
 have hb:=Up_bd y hk
 have hb':=Up_bd y (show k-1<=12 by omega)
 unfold Z0w
 rw [Z0B (by omega),Z0B (by omega)]
 simp only [Bool.or_false,cond_false]
 rw [ZJ (x:=(k:Int)-1) (by omega),show (k:Int)-1=((k-1:Nat):Int) by omega,Z2H y hk,Z2H y (by omega)]
 simp only [Y6]
 rw [ZJ (by omega)]
theorem Bg_bd {y:Int} (hy : -100000<=y/\y<=100000) : -40000000<=Bg y/\Bg y<=40000000:=by
 unfold Bg;omega
theorem civil_Days_or {y mo d:Int} (hd : -9223372036854775808<=d/\d<=9223372036854775807) (hm : -9223372036854775808<=mo/\mo<=9223372036854775807):Z0O y mo d=some (0,30)\/∃ k:Nat,mo=k/\1<=k/\k<=12/\-9999<=y/\y<=9999/\1<=d/\d<=Up y k-Up y (k-1)/\Z0O y mo d=some (Bg y+Up y (k-1)+d-1,0):=by
 by_cases h0:y < -9999\/y>9999\/d<1
 ·refine .inl ?_;unfold Z0O;have:((decide (y<(-9999))||decide (y>9999))||decide (d<1))=true:=by
   simp only [Ye,decide_eq_true_eq];omega
  rw [this]
  rfl
 ·have hf:((decide (y<(-9999))||decide (y>9999))||decide (d<1))=false:=by
   simp only [Y0L,decide_eq_false_iff_not];omega
  by_cases h1:mo<1\/mo>12
  ·refine .inl ?_;unfold Z0O Z0w;have:(decide (mo<1)||decide (mo>12))=true:=by
    simp only [Ye,decide_eq_true_eq];omega
   rw [hf,this];simp only [cond_false,cond_true,Y6];rw [Z0a (by omega)]
   rfl
  ·obtain ⟨k,rfl⟩ : ∃ k:Nat,mo=k:=⟨mo.toNat,by omega⟩
   have hb:=Up_bd y (show k<=12 by omega)
   have hb':=Up_bd y (show k-1<=12 by omega)
   have hB:=Bg_bd (y:=y) (by omega)
   by_cases h2:d<=Up y k-Up y (k-1)
   ·refine .inr ⟨k,rfl,by omega,by omega,by omega,by omega,by omega,h2,?_⟩
    unfold Z0O;rw [hf,Z1i y (by omega) (by omega)]
    simp only [cond_false,Y6];rw [Z0B (by omega)]
    simp only [cond_false];rw [Z5h (by omega),ZJ (x:=(k:Int)-1) (by omega),show (k:Int)-1=((k-1:Nat):Int) by omega,Z2H y (by omega)]
    simp only [Y6];rw [ZJ (x:=Up y (k-1)+d) (by omega),ZJ (x:=Up y (k-1)+d-1) (by omega),ZJ (by omega)]
    congr 2
    omega
   ·refine .inl ?_;unfold Z0O;rw [hf,Z1i y (by omega) (by omega)]
    simp only [cond_false,Y6];rw [Z0a (by omega)]
    rfl
def Dy (m:Int):Int:=Bg (1970+m / 12)+Up (1970+m / 12) (m % 12).toNat
theorem Dy_bd {m:Int} (hm : -1000000<=m/\m<=1000000) : -50000000<=Dy m/\Dy m<=50000000:=by
 have h1:=Bg_bd (y:=1970+m / 12) (by omega)
 have h2:=Up_bd (1970+m / 12) (k:=(m % 12).toNat) (by omega)
 unfold Dy;omega
theorem Up_pos (y:Int) (k:Nat) (hk:k<12):1<=Up y (k+1)-Up y k:=by
 have h:∀ j,j<12->28<=Z1G.getD (j+1) 0-Z1G.getD j 0:=by decide
 have:=h k hk
 unfold Up
 cases h1:decide (2<=k)&&Lp y<;>cases h2:decide (2<=k+1)&&Lp y<;>simp only [cond_true,cond_false]<;>omega
theorem Z3B {m:Int} (h0:0<=m) (h1:m<=4800):Z0t m=some (Dy m):=by
 unfold Z0t
 by_cases h:m=4800
 ·subst h
  rfl
 ·rw [beq_f h];simp only [cond_false];obtain ⟨k,hk⟩ : ∃ k:Nat,m % 12=k:=⟨(m % 12).toNat,by omega⟩
  have hb:=Up_pos (1970+m / 12) k (by omega)
  rw [Yu h0,Yc h0,ZJ (x:=m / 12) (by omega),ZJ (by omega),ZJ (x:=m % 12+1) (by omega)]
  rcases civil_Days_or (y:=1970+m / 12) (mo:=m % 12+1) (d:=1) (by omega) (by omega) with h2|⟨k',e,_,_,_,_,_,_,h2⟩
  ·exfalso
   have:=Z1i (1970+m / 12) (k:=k+1) (by omega) (by omega)
   rw [hk,show (k:Int)+1=((k+1:Nat):Int) by omega] at h2
   unfold Z0O at h2;have hf:((decide (1970+m / 12<(-9999))||decide (1970+m / 12>9999))||decide ((1:Int)<1))=false:=by
    simp only [Y0L,decide_eq_false_iff_not];omega
   rw [hf,this] at h2;simp only [cond_false,Y6,Nat.add_sub_cancel] at h2;rw [Z0B (by omega)] at h2
   simp only [cond_false] at h2;obtain ⟨_,_,h2⟩:=bind_some h2;obtain ⟨_,_,h2⟩:=bind_some h2;simp at h2
  ·rw [h2,Y6];have:k'-1=k:=by omega
   unfold Dy;rw [this,hk]
   congr 1
   simp only [Y0H];omega
def Mo (n N:Nat):Form:=⟨146097,N,(List.range N).map λi=>[⟨Dy ((i*n:Nat):Int),Dy ((i*n:Nat)+n:Int)-1⟩],[]⟩
def Z00:Nat->Form
 | 0|1=>⟨1,1,[[⟨0,0⟩]],[]⟩
 | 2=>⟨7,1,[[⟨-3,3⟩]],[]⟩
 | 3=>Mo 1 4800
 | 4=>Mo 3 1600
 | _=>Mo 12 400
theorem Z1g {n N:Nat} (hn:1<=n) (hN:n*N=4800):Zd (n:Int)=some (Mo n N):=by
 have hN':N<=4800:=by
  have:=YO N hn;omega
 have hn':n<=4800:=by
  rcases Nat.eq_zero_or_pos N with h|h
  ·subst h;omega
  ·have:=Nat.mul_le_mul_left n h;omega
 unfold Zd
 rw [nz?_ok (by omega),Y6]
 have hd:w64 ((4800:Int).tdiv n)=(N:Int):=by
  rw [Yu (by omega),show (4800:Int)=((n*N:Nat):Int) by omega,show (((n*N:Nat):Int) / (n:Int))=((n*N / n:Nat):Int) from rfl,Nat.mul_div_cancel_left N (by omega),ZJ (by omega)]
 have hl:loopO (Zd.s0 (n:Int)) (0,[])=some ((Mo n N).Core,(N:Int)):=by
  refine Z0e (I:=λ(s:Int×List (List Span)) r=>r=((Mo n N).Core,(N:Int))/\∃ k:Nat,s=((k:Int),(List.range k).map λi=>[⟨Dy ((i*n:Nat):Int),Dy ((i*n:Nat)+n:Int)-1⟩])/\k<=N) (λs=>N-s.1.toNat) ?_ ⟨rfl,0,rfl,Y06 _⟩;rintro s r ⟨rfl,k,rfl,hk⟩;unfold Zd.s0;rw [hd]
  by_cases hlt:k<N
  ·refine .inl ⟨_,?_,⟨rfl,k+1,rfl,hlt⟩,by simp;omega⟩
   have hkn:(k+1)*n<=4800:=by
    rw [<- hN,Nat.mul_comm n N];exact YO n hlt
   have hkn':(k+1)*n=k*n+n:=Y0S k n;have e1:(k:Int)*(n:Int)=((k*n:Nat):Int):=by push_cast;rfl
   have hD:=Dy_bd (m:=((k*n:Nat):Int)+n) (by omega)
   simp only;rw [Z0a (by omega)]
   simp only [cond_true];rw [e1,ZJ (x:=((k*n:Nat):Int)) (by omega),ZJ (x:=((k*n:Nat):Int)+n) (by omega),Z3B (by omega) (by omega),Z3B (by omega) (by omega)]
   simp only [Y6];rw [ZJ (x:=Dy (((k*n:Nat):Int)+n)-1) (by omega),app?_ok (by simp [Z2w];omega),Y6,ZJ (by omega),List.range_succ,Y03]
   simp
  ·obtain rfl:k=N:=by omega
   refine .inr ?_;simp only;rw [Z0B (by omega)]
   rfl
 rw [hl]
 rfl
theorem basis_made_eq {j:Nat} (hj:j<6):Z0k (j:Int)=some (Z00 j):=by
 match j,hj with
 | 0,_=>rfl
 | 1,_=>rfl
 | 2,_=>rfl
 | 3,_=>
  unfold Z0k;have:=Z1g (n:=1) (N:=4800) (by omega) rfl
  simp only [show ((3:Nat):Int)=3 from rfl,show ((3:Int)==0)=false from rfl,show ((3:Int)==1)=false from rfl,show ((3:Int)==2)=false from rfl,show ((3:Int)==3)=true from rfl,cond_false,cond_true,Y6];rw [show Zd 1=some (Mo 1 4800) from this]
  rfl
 | 4,_=>
  unfold Z0k;have:=Z1g (n:=3) (N:=1600) (by omega) rfl
  simp only [show ((4:Nat):Int)=4 from rfl,show ((4:Int)==0)=false from rfl,show ((4:Int)==1)=false from rfl,show ((4:Int)==2)=false from rfl,show ((4:Int)==3)=false from rfl,show ((4:Int)==4)=true from rfl,cond_false,cond_true,Y6];rw [show Zd 3=some (Mo 3 1600) from this]
  rfl
 | 5,_=>
  unfold Z0k;have:=Z1g (n:=12) (N:=400) (by omega) rfl
  simp only [show ((5:Nat):Int)=5 from rfl,show ((5:Int)==0)=false from rfl,show ((5:Int)==1)=false from rfl,show ((5:Int)==2)=false from rfl,show ((5:Int)==3)=false from rfl,show ((5:Int)==4)=false from rfl,cond_false,Y6,Jx.elim];rw [show Zd 12=some (Mo 12 400) from this]
  rfl
end Go.Dn

namespace Go.Dn
open Go
theorem copy_loop {x8:List (List Span)} (hl:x8.length<=100000) (hx:∀ r∈x8,r.length<=100000):loopO (ZC.s4 x8) (0,x8)=some x8:=by
 refine Z0e (I:=λ(s:Int×List (List Span)) r=>r=x8/\∃ k:Nat,s=((k:Int),x8)/\k<=x8.length) (λs=>x8.length-s.1.toNat) ?_ ⟨rfl,0,rfl,Y06 _⟩
 rintro s r ⟨hr,k,rfl,hk⟩
 subst hr
 unfold ZC.s4
 by_cases hlt:k<r.length
 ·refine .inl ⟨_,?_,⟨rfl,k+1,rfl,hlt⟩,by simp;omega⟩
  have hc:clone? 16 r[k]=some r[k]:=if_pos (by have:=hx _ (List.getElem_mem hlt);rw [Z2w];omega)
  simp only;rw [Z0a (by omega)]
  simp only [cond_true,at?_nat hlt,Y6,hc];rw [ZJ (by omega),Y0H,List.set_getElem_self]
  simp
 ·obtain rfl:k=r.length:=by omega
  refine .inr ?_;simp only;rw [Z0B (by omega)]
  rfl
theorem gran_Copy_id {f:Form} (hne:f.Core≠[]) (ho:f.Odd=[]) (hl:f.Core.length<=100000) (hx:∀ r∈f.Core,r.length<=100000):ZC f=some f:=by
 have h1:f.Core.isEmpty=false:=by cases hc:f.Core<;>simp_all
 have h2:Zc f.Core=some f.Core:=by
  unfold Zc;have:some? f.Core=some ():=by cases hc:f.Core with|nil=>exact absurd hc hne|cons a l=>rfl
  rw [this,Y6,app?_ok (by rw [Z2w];simp;omega)]
  rfl
 have h5:loopO (ZC.s5 f) ()=some ():=by
  rw [Z1E];unfold ZC.s5;rw [ho]
  rfl
 unfold ZC
 rw [h1,ho]
 simp only [cond_false,h2,Y6,List.isEmpty_nil,cond_true,copy_loop hl hx,h5]
 rw [<- ho]
theorem Mo_len (n N:Nat):(Mo n N).Core.length=N:=by simp [Mo]
theorem made_core {j:Nat} (hj:j<6):(Z00 j).Core≠[]/\(Z00 j).Odd=[]/\(Z00 j).Core.length<=4800/\∀ r∈(Z00 j).Core,r.length<=1:=by
 have hM:∀ n N,0<N->N<=4800->(Mo n N).Core≠[]/\(Mo n N).Odd=[]/\(Mo n N).Core.length<=4800/\∀ r∈(Mo n N).Core,r.length<=1:=λn N h h'=>
  ⟨λe=>by have:=Mo_len n N;rw [e] at this;simp at this;omega,rfl,by rw [Mo_len];exact h',λr hr=>by
   obtain ⟨i,_,rfl⟩:=List.mem_map.1 hr;exact YF _⟩
 match j,hj with
 | 0,_|1,_|2,_=>exact ⟨nofun,rfl,by decide,by simp [Z00]⟩
 | 3,_=>exact hM 1 4800 (by omega) (by omega)
 | 4,_=>exact hM 3 1600 (by omega) (by omega)
 | 5,_=>exact hM 12 400 (by omega) (by omega)
theorem copy_made {j:Nat} (hj:j<6):ZC (Z00 j)=some (Z00 j):=by
 obtain ⟨h1,h2,h3,h4⟩:=made_core hj
 exact gran_Copy_id h1 h2 (by omega) λr hr=>by have:=h4 r hr;omega
theorem index_gen {s:List ByteArray} {v:ByteArray} (hl:s.length<=1000) :
  (∃ k,∃ h:k<s.length,(v.toList==s[k].toList)=true/\Z3 s v=some (k:Int))\/((∀ k (h:k<s.length),(v.toList==s[k].toList)=false)/\Z3 s v=some (-1)):=by
 by_cases hall:∀ (k:Nat) (x:ByteArray),s[k]? = some x->(v.toList==x.toList)=false
 ·refine .inr ⟨λk h=>hall k _ (YD h),?_⟩;unfold Z3;have:loopO (Z3.s0 s v) 0=some (.go ()):=by
   refine Z0e (I:=λ(i:Int) r=>r = .go ()/\∃ k:Nat,i=k/\k<=s.length) (λi=>s.length-i.toNat) ?_ ⟨rfl,0,rfl,Y06 _⟩;rintro i r ⟨rfl,k,rfl,hk⟩;unfold Z3.s0
   by_cases hlt:k<s.length
   ·refine .inl ⟨_,?_,⟨rfl,k+1,rfl,hlt⟩,by simp;omega⟩
    rw [Z0a (by omega),at?_nat hlt]
    simp only [cond_true,Y6,hall k _ (YD hlt),cond_false];rw [ZJ (by omega)]
    simp
   ·refine .inr ?_;rw [Z0B (by omega)]
    rfl
  rw [this]
  rfl
 ·obtain ⟨k0,x0,hx0,hb0,hgood⟩:=first_bad (good:=λ(_:Nat) (x:ByteArray)=>(v.toList==x.toList)=false) hall;have hlt0:=(List.getElem?_eq_some_iff.1 hx0).1;have hx0':=(List.getElem?_eq_some_iff.1 hx0).2;have hb:(v.toList==s[k0].toList)=true:=by rw [hx0'];simpa using hb0
  refine .inl ⟨k0,hlt0,hb,?_⟩;unfold Z3;have:loopO (Z3.s0 s v) 0=some (.ret (k0:Int)):=by
   refine Z0e (I:=λ(i:Int) r=>r = .ret (k0:Int)/\∃ k:Nat,i=k/\k<=k0) (λi=>s.length-i.toNat) ?_ ⟨rfl,0,rfl,Y06 _⟩;rintro i r ⟨rfl,k,rfl,hk⟩;unfold Z3.s0;have hkl:k<s.length:=by omega
   rw [Z0a (by omega),at?_nat hkl]
   simp only [cond_true,Y6]
   by_cases hlt:k<k0
   ·refine .inl ⟨_,?_,⟨trivial,k+1,rfl,hlt⟩,by simp;omega⟩
    rw [hgood k _ hlt (YD hkl)];simp only [cond_false];rw [ZJ (by omega)]
    simp
   ·obtain rfl:k=k0:=by omega
    refine .inr ?_;rw [hb]
    rfl
  rw [this]
  rfl
theorem names_differ:∀ j,j<6->∀ k,k<6->((Z5.getD j ByteArray.empty).toList==(Z5.getD k ByteArray.empty).toList)=true->j=k:=by decide +kernel
theorem index_at {v:ByteArray} {j:Nat} (hj:j<6) (h:(v.toList==(Z5.getD j ByteArray.empty).toList)=true):Z3 Z5 v=some (j:Int):=by
 have e:∀ k (hk:k<Z5.length),Z5[k]=Z5.getD k ByteArray.empty:=λk hk=>by simp [Y0K,YD hk]
 rcases index_gen (s:=Z5) (v:=v) (by decide) with ⟨k,hk,h1,h2⟩|⟨h1,_⟩
 ·rw [e k hk] at h1;have:j=k:=names_differ j hj k hk (by rw [beq_iff_eq] at h h1 ⊢;rw [<- h,h1])
  rw [h2,this]
 ·have:=h1 j hj;rw [e j hj,h] at this;cases this
theorem index_no {v:ByteArray} (h:∀ j,j<6->(v.toList==(Z5.getD j ByteArray.empty).toList)=false):Z3 Z5 v=some (-1):=by
 have e:∀ k (hk:k<Z5.length),Z5[k]=Z5.getD k ByteArray.empty:=λk hk=>by simp [Y0K,YD hk]
 rcases index_gen (s:=Z5) (v:=v) (by decide) with ⟨k,hk,h1,h2⟩|⟨_,h2⟩
 ·rw [e k hk,h k hk] at h1;cases h1
 ·exact h2
theorem cal_new {v:ByteArray} {j:Nat} {ks:List (Option Form)} {m:Int} (hj:j<6) (h:(v.toList==(Z5.getD j ByteArray.empty).toList)=true) (hl:ks.length=6) (hk:ks[j]? = some none) (hm:0<=m/\m<=1000) :
  Z0W v (ks,m)=some ((Z00 j,0),(ks.set j (some (Z00 j)),m+1)):=by
 have ha:at? ks (j:Int)=some none:=by rw [at?_nat (by omega)];rw [YD (by omega)] at hk;exact hk
 unfold Z0W
 simp only [hl,index_at hj h,beq_self_eq_true,cond_true,Y6]
 rw [Z0B (by omega)]
 simp only [cond_false,ha,Y6,basis_made_eq hj,copy_made hj]
 rw [Y0H,ZJ (by omega)]
theorem cal_old {v:ByteArray} {j:Nat} {ks:List (Option Form)} {m:Int} (hj:j<6) (h:(v.toList==(Z5.getD j ByteArray.empty).toList)=true) (hl:ks.length=6) (hk:ks[j]? = some (some (Z00 j))) :
  Z0W v (ks,m)=some ((Z00 j,0),(ks,m)):=by
 have ha:at? ks (j:Int)=some (some (Z00 j)):=by rw [at?_nat (by omega)];rw [YD (by omega)] at hk;exact hk
 unfold Z0W
 simp only [hl,index_at hj h,beq_self_eq_true,cond_true,Y6]
 rw [Z0B (by omega)]
 simp only [cond_false,ha,Y6,copy_made hj]
theorem cal_no {v:ByteArray} {ks:List (Option Form)} {m:Int} (h:∀ j,j<6->(v.toList==(Z5.getD j ByteArray.empty).toList)=false) (hl:ks.length=6):Z0W v (ks,m)=some ((⟨0,0,[],[]⟩,80),(ks,m)):=by
 unfold Z0W
 simp only [hl,index_no h,beq_self_eq_true,cond_true,Y6]
 rfl
def CalOK (ks:List (Option Form)):Prop:=ks.length=6/\∀ j,j<6->ks[j]? = some none\/ks[j]? = some (some (Z00 j))
theorem Z3e {f:Form} {i:Nat} {x:Span} (h:f.Core[i]? = some [x]):ZF f (i:Int)=some x:=by
 obtain ⟨h1,h2⟩:=List.getElem?_eq_some_iff.1 h
 unfold ZF
 simp only [at?_nat h1,h2,Y6]
 rw [Z0B (by omega)]
 rfl
theorem Mo_at {n N i:Nat} (h:i<N):(Mo n N).Core[i]? = some [⟨Dy ((i*n:Nat):Int),Dy ((i*n:Nat)+n:Int)-1⟩]:=by
 simp [Mo,h]
end Go.Dn

namespace Go.Dn
open Go
theorem Z2q:Z0g=some true:=by
 have c1:ZF (Z00 2) 0=some ⟨-3,3⟩:=Z3e (i:=0) rfl
 have c2:ZF (Z00 3) 1=some ⟨31,58⟩:=Z3e (i:=1) ((Mo_at (by decide)).trans (by decide +kernel))
 have c3:ZF (Z00 3) 25=some ⟨761,789⟩:=Z3e (i:=25) ((Mo_at (by decide)).trans (by decide +kernel))
 have c4:ZF (Z00 5) 0=some ⟨0,364⟩:=Z3e (i:=0) ((Mo_at (by decide)).trans (by decide +kernel))
 have c5:ZF (Z00 5) 1=some ⟨365,729⟩:=Z3e (i:=1) ((Mo_at (by decide)).trans (by decide +kernel))
 have c6:ZF (Z00 5) 2=some ⟨730,1095⟩:=Z3e (i:=2) ((Mo_at (by decide)).trans (by decide +kernel))
 unfold Z0g
 rw [cal_new (j:=2) (by decide) (by decide +kernel) rfl rfl (by decide),Y6]
 simp only
 rw [cal_new (j:=3) (by decide) (by decide +kernel) rfl rfl (by decide),Y6]
 simp only
 rw [cal_new (j:=5) (by decide) (by decide +kernel) rfl rfl (by decide),Y6]
 simp only
 rw [cal_no (by decide +kernel) rfl,Y6]
 simp only [c1,c2,c3,c4,c5,c6,Y6]
 rfl
end Go.Dn

namespace Go.Dn
open Go Go.Proofs
set_option maxRecDepth 100000
set_option maxHeartbeats 4000000
theorem Zw {f:Form} {i:Int} {r:Span} (h:ZF f i=some r):Fn CZ 28 [(.agg (vs (Form.cs f))),(vi i)] (.agg (vs (Span.cs r))):=lift rfl (Z4E h) rfl rfl
theorem Z3P {r:Bool} (h:Z0g=some r):Fn CZ 14 [] (vb r):=by
 refine Fn.go Tryd.func14 V λG H=>?_;unfold Z0g at h;refine .tR 1 V H λb1 G H=>(.aV V (.na H λH=>(.tR 2 V H λb2 G H=>?_)));refine .callFO (ys:=[]) H rfl new_call nofun rfl ?_;rintro _ _ G ⟨id1,id2,rfl,rfl⟩ H;replace H:Has G _ _ [.blk id1 44 [(.buf id2 6 7),(vi 0)],.blk id2 72 (kcells [none,none,none,none,none,none])]:=H;refine .aP V (.na H λH=>(.tR 8 V H λb3 G H=>(.mP V ?_)));obtain ⟨x1,q1,h⟩:=bs h;refine .callI (cv:=.v (.fn 10)) (ys:=[(.ptr id1 2 0),(.v (.str (ByteArray.mk #[119,101,101,107])))]) (L:=[]) [.blk id1 44 [(.buf id2 6 7),(vi 0)],.blk id2 72 (kcells [none,none,none,none,none,none])] H rfl rfl (λT _ H=>Z2S (g:=x1.1.1) (e:=x1.1.2) (ks':=x1.2.1) (m':=x1.2.2) q1 H) nofun rfl ?_;rintro _ _ G ⟨w1,w2,hw1,hw2,rfl,rfl⟩ H;replace H:Has G _ _ [.blk id1 44 [(.buf id2 6 7),(vi x1.2.2)],.blk id2 72 (kcells x1.2.1)]:=H;refine .m1 (.tup [(.agg [(vi x1.1.1.Period),(vi x1.1.1.Count),w1,w2]),(vi x1.1.2)]) V V (.xV V (.xV V (.alc (cs:=[(vi 0),(vi 0),.nils,.nils]) H V V λG H=>(.sV [(vi x1.1.1.Period),(vi x1.1.1.Count),w1,w2] H 0 V λG H=>(.aV V (.na H λH=>(.tR 8 V H λb4 G H=>(.mP V ?_))))))));replace H:Has G _ _ [.blk id1 44 [(.buf id2 6 7),(vi x1.2.2)],.blk id2 72 (kcells x1.2.1),.blk (b3+5) 29 [(vi x1.1.1.Period),(vi x1.1.1.Count),w1,w2]]:=H.pick [1,2,0] (by decide);obtain ⟨x2,q2,h⟩:=bs h
 refine .callI (cv:=.v (.fn 10)) (ys:=[(.ptr id1 2 0),(.v (.str (ByteArray.mk #[109,111,110,116,104])))]) (L:=[.blk (b3+5) 29 [(vi x1.1.1.Period),(vi x1.1.1.Count),w1,w2]]) [.blk id1 44 [(.buf id2 6 7),(vi x1.2.2)],.blk id2 72 (kcells x1.2.1)] H rfl rfl (λT _ H=>Z2S (g:=x2.1.1) (e:=x2.1.2) (ks':=x2.2.1) (m':=x2.2.2) q2 H) nofun rfl ?_;rintro _ _ G ⟨w3,w4,hw3,hw4,rfl,rfl⟩ H;replace H:Has G _ _ [.blk id1 44 [(.buf id2 6 7),(vi x2.2.2)],.blk id2 72 (kcells x2.2.1),.blk (b3+5) 29 [(vi x1.1.1.Period),(vi x1.1.1.Count),w1,w2]]:=H;refine .m1 (.tup [(.agg [(vi x2.1.1.Period),(vi x2.1.1.Count),w3,w4]),(vi x2.1.2)]) V V (.xV V (.xV V (.alc (cs:=[(vi 0),(vi 0),.nils,.nils]) H V V λG H=>(.sV [(vi x2.1.1.Period),(vi x2.1.1.Count),w3,w4] H 0 V λG H=>(.aV V (.na H λH=>(.tR 8 V H λb5 G H=>(.mP V ?_))))))));replace H:Has G _ _ [.blk id1 44 [(.buf id2 6 7),(vi x2.2.2)],.blk id2 72 (kcells x2.2.1),.blk (b4+5) 29 [(vi x2.1.1.Period),(vi x2.1.1.Count),w3,w4],.blk (b3+5) 29 [(vi x1.1.1.Period),(vi x1.1.1.Count),w1,w2]]:=H.pick [1,2,0,3] (by decide);obtain ⟨x3,q3,h⟩:=bs h;refine .callI (cv:=.v (.fn 10)) (ys:=[(.ptr id1 2 0),(.v (.str (ByteArray.mk #[121,101,97,114])))]) (L:=[.blk (b4+5) 29 [(vi x2.1.1.Period),(vi x2.1.1.Count),w3,w4],.blk (b3+5) 29 [(vi x1.1.1.Period),(vi x1.1.1.Count),w1,w2]]) [.blk id1 44 [(.buf id2 6 7),(vi x2.2.2)],.blk id2 72 (kcells x2.2.1)] H rfl rfl (λT _ H=>Z2S (g:=x3.1.1) (e:=x3.1.2) (ks':=x3.2.1) (m':=x3.2.2) q3 H) nofun rfl ?_;rintro _ _ G ⟨w5,w6,hw5,hw6,rfl,rfl⟩ H
 replace H:Has G _ _ [.blk id1 44 [(.buf id2 6 7),(vi x3.2.2)],.blk id2 72 (kcells x3.2.1),.blk (b4+5) 29 [(vi x2.1.1.Period),(vi x2.1.1.Count),w3,w4],.blk (b3+5) 29 [(vi x1.1.1.Period),(vi x1.1.1.Count),w1,w2]]:=H;refine .m1 (.tup [(.agg [(vi x3.1.1.Period),(vi x3.1.1.Count),w5,w6]),(vi x3.1.2)]) V V (.xV V (.xV V (.alc (cs:=[(vi 0),(vi 0),.nils,.nils]) H V V λG H=>(.sV [(vi x3.1.1.Period),(vi x3.1.1.Count),w5,w6] H 0 V λG H=>(.aV V (.na H λH=>(.tR 8 V H λb6 G H=>(.mP V ?_))))))));replace H:Has G _ _ [.blk id1 44 [(.buf id2 6 7),(vi x3.2.2)],.blk id2 72 (kcells x3.2.1),.blk (b5+5) 29 [(vi x3.1.1.Period),(vi x3.1.1.Count),w5,w6],.blk (b4+5) 29 [(vi x2.1.1.Period),(vi x2.1.1.Count),w3,w4],.blk (b3+5) 29 [(vi x1.1.1.Period),(vi x1.1.1.Count),w1,w2]]:=H.pick [1,2,0,3,4] (by decide);obtain ⟨x4,q4,h⟩:=bs h;refine .callI (cv:=.v (.fn 10)) (ys:=[(.ptr id1 2 0),(.v (.str (ByteArray.mk #[104,111,117,114])))]) (L:=[.blk (b5+5) 29 [(vi x3.1.1.Period),(vi x3.1.1.Count),w5,w6],.blk (b4+5) 29 [(vi x2.1.1.Period),(vi x2.1.1.Count),w3,w4],.blk (b3+5) 29 [(vi x1.1.1.Period),(vi x1.1.1.Count),w1,w2]]) [.blk id1 44 [(.buf id2 6 7),(vi x3.2.2)],.blk id2 72 (kcells x3.2.1)] H rfl rfl (λT _ H=>Z2S (g:=x4.1.1) (e:=x4.1.2) (ks':=x4.2.1) (m':=x4.2.2) q4 H) nofun rfl ?_;rintro _ _ G ⟨w7,w8,hw7,hw8,rfl,rfl⟩ H;replace H:Has G _ _ [.blk id1 44 [(.buf id2 6 7),(vi x4.2.2)],.blk id2 72 (kcells x4.2.1),.blk (b5+5) 29 [(vi x3.1.1.Period),(vi x3.1.1.Count),w5,w6],.blk (b4+5) 29 [(vi x2.1.1.Period),(vi x2.1.1.Count),w3,w4],.blk (b3+5) 29 [(vi x1.1.1.Period),(vi x1.1.1.Count),w1,w2]]:=H
 refine .m1 (.tup [(.agg [(vi x4.1.1.Period),(vi x4.1.1.Count),w7,w8]),(vi x4.1.2)]) V V (.xV V (.xV V (.alc (cs:=[(vi 0),(vi 0),.nils,.nils]) H V V λG H=>(.sV [(vi x4.1.1.Period),(vi x4.1.1.Count),w7,w8] H 0 V λG H=>(.aV V (.na H λH=>(.then (.tR 34 V H λb7 G H=>?_))))))));refine .mV V (.iV V (.mV V ?_));refine .md H 4 [(37,(vb ((x1.1.2 != 0)||(x1.1.1.Period != 7)))),(1,(.ptr id1 2 0)),(2,(.ptr (b3+5) 4 0)),(4,(.ptr (b4+5) 4 0)),(5,(vi x2.1.2)),(6,(.ptr (b5+5) 4 0)),(7,(vi x3.1.2)),(9,(vi x4.1.2))] [.blk id1 44 [(.buf id2 6 7),(vi x4.2.2)],.blk id2 72 (kcells x4.2.1),.blk (b5+5) 29 [(vi x3.1.1.Period),(vi x3.1.1.Count),w5,w6],.blk (b4+5) 29 [(vi x2.1.1.Period),(vi x2.1.1.Count),w3,w4],.blk (b3+5) 29 [(vi x1.1.1.Period),(vi x1.1.1.Count),w1,w2]] rfl ?_ λe G H=>?_
 ·refine .split V V ?_ ?_<;>intro hc1
  ·refine .ps 3 V (.kT V (.nil ?_));exact ⟨⟨or_T hc1,V,V,V,V,V,V,V,U⟩,(H.erase 0).wk (by omega)⟩
  ·refine .fV H 5 V (.lV H 5 V (.iV V (.kF V (.nil ?_))));exact ⟨⟨or_F hc1,V,V,V,V,V,V,V,U⟩,(H.erase 0).wk (by omega)⟩
 refine .mV V ?_;refine .md H 4 [(42,(vb (((x1.1.2 != 0)||(x1.1.1.Period != 7))||(x1.1.1.Count != 1)))),(1,(.ptr id1 2 0)),(2,(.ptr (b3+5) 4 0)),(4,(.ptr (b4+5) 4 0)),(5,(vi x2.1.2)),(6,(.ptr (b5+5) 4 0)),(7,(vi x3.1.2)),(9,(vi x4.1.2))] [.blk id1 44 [(.buf id2 6 7),(vi x4.2.2)],.blk id2 72 (kcells x4.2.1),.blk (b5+5) 29 [(vi x3.1.1.Period),(vi x3.1.1.Count),w5,w6],.blk (b4+5) 29 [(vi x2.1.1.Period),(vi x2.1.1.Count),w3,w4],.blk (b3+5) 29 [(vi x1.1.1.Period),(vi x1.1.1.Count),w1,w2]] rfl ?_ λe G H=>?_
 ·refine .split V V ?_ ?_<;>intro hc2
  ·refine .ps 3 V (.kT V (.nil ?_));exact ⟨⟨or_T hc2,V,V,V,V,V,V,V,U⟩,H.wk (by omega)⟩
  ·refine .fV H 4 V (.lV H 4 V (.iV V (.kF V (.nil ?_))));exact ⟨⟨or_F hc2,V,V,V,V,V,V,V,U⟩,H.wk (by omega)⟩
 refine .mV V ?_;obtain ⟨y1,hj1,h⟩:=bs h;refine .md H 5 [(48,(vb y1)),(1,(.ptr id1 2 0)),(4,(.ptr (b4+5) 4 0)),(5,(vi x2.1.2)),(6,(.ptr (b5+5) 4 0)),(7,(vi x3.1.2)),(9,(vi x4.1.2))] [.blk id1 44 [(.buf id2 6 7),(vi x4.2.2)],.blk id2 72 (kcells x4.2.1),.blk (b5+5) 29 [(vi x3.1.1.Period),(vi x3.1.1.Count),w5,w6],.blk (b4+5) 29 [(vi x2.1.1.Period),(vi x2.1.1.Count),w3,w4]] V ?_ λe G H=>?_
 ·refine .sp hj1 V ?_ ?_<;>intro h
  ·refine .ps 4 V (.kT V (.nil ?_));obtain rfl:=sj h;exact ⟨EI V,(H.erase 4).wk (by omega)⟩
  refine .LV [(vi x1.1.1.Period),(vi x1.1.1.Count),w1,w2] H 4 V (.wt V V ?_);obtain ⟨x5,q5,h⟩:=bs h;refine .Z4N (xs:=[(.agg [(vi x1.1.1.Period),(vi x1.1.1.Count),w1,w2]),(vi 0)]) (ys:=[(.agg (vs (Form.cs (Form.mk x1.1.1.Period x1.1.1.Count x1.1.1.Core x1.1.1.Odd)))),(vi 0)]) H V (.cons (.a (.cons (.v _) (.cons (.v _) (.cons (.ro hw1) (.cons (.ro hw2) .nil))))) (.cons (.c (.v _)) .nil)) (Zw q5) V nofun V λG H=>(.bV [(vi (-3)),(vi 3)] V (.wt V V (.binA (u:=(.agg [(vi x5.From),(vi x5.To)])) (w:=(.agg [(vi (-3)),(vi 3)])) (r:=.bool (!((x5.From==(-3))&&((x5.To==3)&&true)))) V V (by kernel_rfl) (λ_=>Z2n V V V V) V (.kF V (.nil ?_)))));obtain rfl:=sj h;exact ⟨EI V,(H.erase 4).wk (by omega)⟩
 refine .mV V ?_;refine .md H 3 [(52,(vb (y1||(x2.1.2 != 0)))),(1,(.ptr id1 2 0)),(4,(.ptr (b4+5) 4 0)),(6,(.ptr (b5+5) 4 0)),(7,(vi x3.1.2)),(9,(vi x4.1.2))] [.blk id1 44 [(.buf id2 6 7),(vi x4.2.2)],.blk id2 72 (kcells x4.2.1),.blk (b5+5) 29 [(vi x3.1.1.Period),(vi x3.1.1.Count),w5,w6],.blk (b4+5) 29 [(vi x2.1.1.Period),(vi x2.1.1.Count),w3,w4]] rfl ?_ λe G H=>?_
 ·refine .split V V ?_ ?_<;>intro hc4
  ·refine .ps 2 V (.kT V (.nil ?_));exact ⟨⟨or_T hc4,V,V,V,V,V,U⟩,H.wk (by omega)⟩
  ·refine .mV V (.iV V (.kF V (.nil ?_)));exact ⟨⟨or_F hc4,V,V,V,V,V,U⟩,H.wk (by omega)⟩
 refine .mV V ?_;obtain ⟨y2,hj2,h⟩:=bs h;refine .md H 5 [(58,(vb y2)),(1,(.ptr id1 2 0)),(4,(.ptr (b4+5) 4 0)),(6,(.ptr (b5+5) 4 0)),(7,(vi x3.1.2)),(9,(vi x4.1.2))] [.blk id1 44 [(.buf id2 6 7),(vi x4.2.2)],.blk id2 72 (kcells x4.2.1),.blk (b5+5) 29 [(vi x3.1.1.Period),(vi x3.1.1.Count),w5,w6],.blk (b4+5) 29 [(vi x2.1.1.Period),(vi x2.1.1.Count),w3,w4]] V ?_ λe G H=>?_
 ·refine .sp hj2 V ?_ ?_<;>intro h
  ·refine .ps 4 V (.kT V (.nil ?_));obtain rfl:=sj h;exact ⟨EI V,H.wk (by omega)⟩
  refine .LV [(vi x2.1.1.Period),(vi x2.1.1.Count),w3,w4] H 3 V (.wt V V ?_);obtain ⟨x6,q6,h⟩:=bs h;refine .Z4N (xs:=[(.agg [(vi x2.1.1.Period),(vi x2.1.1.Count),w3,w4]),(vi 1)]) (ys:=[(.agg (vs (Form.cs (Form.mk x2.1.1.Period x2.1.1.Count x2.1.1.Core x2.1.1.Odd)))),(vi 1)]) H V (.cons (.a (.cons (.v _) (.cons (.v _) (.cons (.ro hw3) (.cons (.ro hw4) .nil))))) (.cons (.c (.v _)) .nil)) (Zw q6) V nofun V λG H=>(.bV [(vi 31),(vi 58)] V (.wt V V (.binA (u:=(.agg [(vi x6.From),(vi x6.To)])) (w:=(.agg [(vi 31),(vi 58)])) (r:=.bool (!((x6.From==31)&&((x6.To==58)&&true)))) V V (by kernel_rfl) (λ_=>Z2n V V V V) V (.kF V (.nil ?_)))));obtain rfl:=sj h;exact ⟨EI V,H.wk (by omega)⟩
 refine .mV V ?_;obtain ⟨y3,hj3,h⟩:=bs h;refine .md H 5 [(64,(vb y3)),(1,(.ptr id1 2 0)),(6,(.ptr (b5+5) 4 0)),(7,(vi x3.1.2)),(9,(vi x4.1.2))] [.blk id1 44 [(.buf id2 6 7),(vi x4.2.2)],.blk id2 72 (kcells x4.2.1),.blk (b5+5) 29 [(vi x3.1.1.Period),(vi x3.1.1.Count),w5,w6]] V ?_ λe G H=>?_
 ·refine .sp hj3 V ?_ ?_<;>intro h
  ·refine .ps 4 V (.kT V (.nil ?_));obtain rfl:=sj h;exact ⟨EI V,(H.erase 3).wk (by omega)⟩
  refine .LV [(vi x2.1.1.Period),(vi x2.1.1.Count),w3,w4] H 3 V (.wt V V ?_);obtain ⟨x7,q7,h⟩:=bs h;refine .Z4N (xs:=[(.agg [(vi x2.1.1.Period),(vi x2.1.1.Count),w3,w4]),(vi 25)]) (ys:=[(.agg (vs (Form.cs (Form.mk x2.1.1.Period x2.1.1.Count x2.1.1.Core x2.1.1.Odd)))),(vi 25)]) H V (.cons (.a (.cons (.v _) (.cons (.v _) (.cons (.ro hw3) (.cons (.ro hw4) .nil))))) (.cons (.c (.v _)) .nil)) (Zw q7) V nofun V λG H=>(.bV [(vi 761),(vi 789)] V (.wt V V (.binA (u:=(.agg [(vi x7.From),(vi x7.To)])) (w:=(.agg [(vi 761),(vi 789)])) (r:=.bool (!((x7.From==761)&&((x7.To==789)&&true)))) V V (by kernel_rfl) (λ_=>Z2n V V V V) V (.kF V (.nil ?_)))));obtain rfl:=sj h;exact ⟨EI V,(H.erase 3).wk (by omega)⟩
 refine .na H λH=>?_;refine .wh h V ?_ ?_<;>intro h
 ·refine .tR 1 V H λb8 G H=>(.aV V (.na H λH=>(.ret ?_)));obtain rfl:=sj h;exact Ends.eR V
 refine .skip (.tR 30 V H λb9 G H=>(.mV V (.iV V (.mV V ?_))));obtain ⟨y4,hj4,h⟩:=bs h;refine .md H 5 [(72,(vb y4)),(1,(.ptr id1 2 0)),(6,(.ptr (b5+5) 4 0)),(9,(vi x4.1.2))] [.blk id1 44 [(.buf id2 6 7),(vi x4.2.2)],.blk id2 72 (kcells x4.2.1),.blk (b5+5) 29 [(vi x3.1.1.Period),(vi x3.1.1.Count),w5,w6]] V ?_ λe G H=>?_
 ·refine .sp hj4 V ?_ ?_<;>intro h
  ·refine .LV [(vi x3.1.1.Period),(vi x3.1.1.Count),w5,w6] H 2 V (.wt V V ?_);obtain ⟨x8,q8,h⟩:=bs h;refine .Z4N (xs:=[(.agg [(vi x3.1.1.Period),(vi x3.1.1.Count),w5,w6]),(vi 0)]) (ys:=[(.agg (vs (Form.cs (Form.mk x3.1.1.Period x3.1.1.Count x3.1.1.Core x3.1.1.Odd)))),(vi 0)]) H V (.cons (.a (.cons (.v _) (.cons (.v _) (.cons (.ro hw5) (.cons (.ro hw6) .nil))))) (.cons (.c (.v _)) .nil)) (Zw q8) V nofun V λG H=>(.bV [(vi 0),(vi 364)] V (.wt V V (.binA (u:=(.agg [(vi x8.From),(vi x8.To)])) (w:=(.agg [(vi 0),(vi 364)])) (r:=.bool ((x8.From==0)&&((x8.To==364)&&true))) V V (by kernel_rfl) (λ_=>Z2n V V V V) V (.kT V (.nil ?_)))));obtain rfl:=sj h;exact ⟨EI V,H.wk (by omega)⟩
  refine .ps 4 V (.kF V (.nil ?_));obtain rfl:=sj h;exact ⟨EI V,H.wk (by omega)⟩
 refine .mV V ?_;obtain ⟨y5,hj5,h⟩:=bs h;refine .md H 5 [(78,(vb y5)),(1,(.ptr id1 2 0)),(6,(.ptr (b5+5) 4 0)),(9,(vi x4.1.2))] [.blk id1 44 [(.buf id2 6 7),(vi x4.2.2)],.blk id2 72 (kcells x4.2.1),.blk (b5+5) 29 [(vi x3.1.1.Period),(vi x3.1.1.Count),w5,w6]] V ?_ λe G H=>?_
 ·refine .sp hj5 V ?_ ?_<;>intro h
  ·refine .LV [(vi x3.1.1.Period),(vi x3.1.1.Count),w5,w6] H 2 V (.wt V V ?_);obtain ⟨x9,q9,h⟩:=bs h;refine .Z4N (xs:=[(.agg [(vi x3.1.1.Period),(vi x3.1.1.Count),w5,w6]),(vi 1)]) (ys:=[(.agg (vs (Form.cs (Form.mk x3.1.1.Period x3.1.1.Count x3.1.1.Core x3.1.1.Odd)))),(vi 1)]) H V (.cons (.a (.cons (.v _) (.cons (.v _) (.cons (.ro hw5) (.cons (.ro hw6) .nil))))) (.cons (.c (.v _)) .nil)) (Zw q9) V nofun V λG H=>(.bV [(vi 365),(vi 729)] V (.wt V V (.binA (u:=(.agg [(vi x9.From),(vi x9.To)])) (w:=(.agg [(vi 365),(vi 729)])) (r:=.bool ((x9.From==365)&&((x9.To==729)&&true))) V V (by kernel_rfl) (λ_=>Z2n V V V V) V (.kT V (.nil ?_)))));obtain rfl:=sj h;exact ⟨EI V,H.wk (by omega)⟩
  refine .ps 4 V (.kF V (.nil ?_));obtain rfl:=sj h;exact ⟨EI V,H.wk (by omega)⟩
 refine .mV V ?_;obtain ⟨y6,hj6,h⟩:=bs h;refine .md H 5 [(84,(vb y6)),(1,(.ptr id1 2 0)),(9,(vi x4.1.2))] [.blk id1 44 [(.buf id2 6 7),(vi x4.2.2)],.blk id2 72 (kcells x4.2.1)] V ?_ λe G H=>?_
 ·refine .sp hj6 V ?_ ?_<;>intro h
  ·refine .LV [(vi x3.1.1.Period),(vi x3.1.1.Count),w5,w6] H 2 V (.wt V V ?_);obtain ⟨x10,q10,h⟩:=bs h;refine .Z4N (xs:=[(.agg [(vi x3.1.1.Period),(vi x3.1.1.Count),w5,w6]),(vi 2)]) (ys:=[(.agg (vs (Form.cs (Form.mk x3.1.1.Period x3.1.1.Count x3.1.1.Core x3.1.1.Odd)))),(vi 2)]) H V (.cons (.a (.cons (.v _) (.cons (.v _) (.cons (.ro hw5) (.cons (.ro hw6) .nil))))) (.cons (.c (.v _)) .nil)) (Zw q10) V nofun V λG H=>(.bV [(vi 730),(vi 1095)] V (.wt V V (.binA (u:=(.agg [(vi x10.From),(vi x10.To)])) (w:=(.agg [(vi 730),(vi 1095)])) (r:=.bool ((x10.From==730)&&((x10.To==1095)&&true))) V V (by kernel_rfl) (λ_=>Z2n V V V V) V (.kT V (.nil ?_)))));obtain rfl:=sj h;exact ⟨EI V,(H.erase 2).wk (by omega)⟩
  refine .ps 4 V (.kF V (.nil ?_));obtain rfl:=sj h;exact ⟨EI V,(H.erase 2).wk (by omega)⟩
 refine .mV V ?_;refine .md H 3 [(88,(vb (y6&&(x4.1.2==80)))),(1,(.ptr id1 2 0))] [.blk id1 44 [(.buf id2 6 7),(vi x4.2.2)],.blk id2 72 (kcells x4.2.1)] V ?_ λe G H=>?_
 ·refine .split V V ?_ ?_<;>intro hc11
  ·refine .mV V (.iV V (.kT V (.nil ?_)));exact ⟨⟨and_T hc11,V,U⟩,H.wk (by omega)⟩
  ·refine .ps 2 V (.kF V (.nil ?_));exact ⟨⟨and_F hc11,V,U⟩,H.wk (by omega)⟩
 refine .mV V ?_;refine .md H 4 [(93,(vb ((y6&&(x4.1.2==80))&&(x4.2.2==3))))] [] V ?_ λe G H=>?_
 ·refine .split V V ?_ ?_<;>intro hc12
  ·refine .mP V (.wt V V ?_);refine .callI (cv:=.v (.fn 13)) (ys:=[(.ptr id1 2 0)]) (L:=[.blk id2 72 (kcells x4.2.1)]) [.blk id1 44 [(.buf id2 6 7),(vi x4.2.2)]] H rfl rfl (λT _ H=>made_call H) nofun rfl ?_;rintro _ _ G ⟨rfl,rfl⟩ H;replace H:Has G _ _ [.blk id1 44 [(.buf id2 6 7),(vi x4.2.2)],.blk id2 72 (kcells x4.2.1)]:=H;refine .iV V (.kT V (.nil ?_));exact ⟨⟨and_T hc12,U⟩,((H.erase 1).erase 0).wk (by omega)⟩
  ·refine .ps 3 V (.kF V (.nil ?_));exact ⟨⟨and_F hc12,U⟩,((H.erase 1).erase 0).wk (by omega)⟩
 refine .aV V (.na H λH=>(.ret ?_));obtain rfl:=sj h;exact Ends.eR V
theorem Z3T {r:Bool} (h:Z1V=r):Fn CZ 14 [] (vb r):=by
 subst h;exact Z3P Z2q
theorem Z5i {r:(List ByteArray)} (h:Z5=r):Fn CZ 8 [] (vl cS r):=lift rfl (Z21 h) rfl rfl
theorem Z3R {r:(List ByteArray)} (h:Z8=r):Fn CZ 9 [] (vl cS r):=lift rfl (Z3n h) rfl rfl
theorem Z3q {name:ByteArray} {r:Form×Int} (h:ZA name=some r):Fn CZ 11 [(.v (.str name))] (.tup [(.agg (vs (Form.cs r.1))),(vi r.2)]):=lift rfl (Z4A h) rfl rfl
theorem Z3p {a:Form} {b:Form} {r:Bool} (h:ZB a b=some r):Fn CZ 12 [(.agg (vs (Form.cs a))),(.agg (vs (Form.cs b)))] (vb r):=lift rfl (Z44 h) rfl rfl
theorem Z23 {name:ByteArray} {r:Bool} (h:ZK name=some r):Fn CZ 3 [(.v (.str name))] (vb r):=by
 refine Fn.go Tryd.func3 V λG H=>?_;unfold ZK at h;refine .tR 1 V H λb1 G H=>(.aV V (.na H λH=>(.tR 2 V H λb2 G H=>?_)));refine .callFO (ys:=[]) H rfl new_call nofun rfl ?_;rintro _ _ G ⟨id1,id2,rfl,rfl⟩ H;replace H:Has G _ _ [.blk id1 44 [(.buf id2 6 7),(vi 0)],.blk id2 72 (kcells [none,none,none,none,none,none])]:=H;refine .aP V (.na H λH=>(.tR 4 V H λb3 G H=>(.cV (Z5i V) V (.cV (Z3R V) V (.aV V (.aV V (.na H λH=>(.then ?_))))))));refine .tR 5 V H λb4 G H=>(.mV V (.nV V (.mV V (.nV V (.iV V (.na H λH=>?_))))));refine .wh h V ?_ ?_<;>intro h
 ·refine .tR 1 V H λb5 G H=>(.aV V (.na H λH=>(.ret ?_)));obtain rfl:=sj h;exact Ends.eR V
 refine .skip (.then (.tR 8 V H λb6 G H=>(.Z2O (sz:=1) ([].map cS) H (by omega) (by omega) V V V V V V V V V λG H=>(.mV V ?_))));obtain ⟨x1,q1,h⟩:=bs h;refine .Z4d (c:=cS) (w:=(vl cS Z8)) (xs:=[]) (ys:=Z8) H (by omega) (by omega) 0 V V V (.m (λ_=>V)) q1 V V V V V nofun V λG H=>(.mV V (.Z2O (sz:=1) ([name].map cS) H (by omega) (by omega) V V V V V V V V V λG H=>?_));obtain ⟨x2,q2,h⟩:=bs h;refine .Z4d (c:=cS) (w:=(.buf (b6+4) 1 1)) (xs:=x1) (ys:=[name]) H (by omega) (by omega) 1 V V V (.s 0 V) q2 V V V V V nofun V λG H=>(.lenSt (c:=cS) (xs:=x2) H 1 V V V nofun V (.mV V (.na H λH=>(.inBlock ?_))));obtain ⟨y1,hj1,h⟩:=bs h;obtain ⟨n1,hj1⟩:=Zo.1 hj1;refine .mono (Runs.loopO hj1 (λs1 e G=>ZU e [(3,(.ptr id1 2 0)),(4,(vl cS Z5)),(5,(vl cS Z8)),(25,(.buf (b6+0) x2.length 1)),(26,(vi (x2.length:Int))),(27,(vi s1.1))]/\Hs G [.sl (.buf (b6+0) x2.length 1) 9 1 (x2.map cS) true,.blk id1 44 [(.buf id2 6 7),(vi s1.2.1)],.blk id2 72 (kcells s1.2.2)]) (λy1 x e G=>(∃ a1,y1=(.go a1)/\x = .exit 0/\ZU e [(3,(.ptr id1 2 0)),(5,(vl cS Z8))]/\Hs G [.blk id1 44 [(.buf id2 6 7),(vi a1.1)],.blk id2 72 (kcells a1.2)])\/(∃ r',y1=(.ret r')/\x = .ret/\Ends CZ Tryd.f3.results.toList (vb r') x e G)) ⟨EI V,(H.erase 0)⟩ ?_) ?_
 ·intro s1 e G hI z h;obtain ⟨he,H⟩:=hI;obtain ⟨e,rfl⟩:=he.ex;unfold ZK.s0 at h;refine .tR 1 V H λb7 G H=>(.iV V (.na H λH=>(.then ?_)));refine .wh h V ?_ ?_<;>intro h
  ·refine .skip (.then (.inBlock (.tR 5 V H λb8 G H=>(.mV V ?_))));obtain ⟨x3,q3,h⟩:=bs h;refine .Z2o H 0 V V V (at?_map q3) V V nofun V ?_;intro id3 hv1;refine .loadS (id:=id3) (j:=0) (w:=(.str x3)) H 0 V hv1 (by simp) (at?_map q3) V (by simp) V V V nofun V ?_;refine .aV V (.aV V (.na H λH=>(.then (.tR 12 V H λb9 G H=>(.mV V (.mV V (.nV V (.iV V ?_))))))));refine .mV V ?_;obtain ⟨y2,hj2,h⟩:=bs h;refine .md H 7 [(43,(vb y2)),(3,(.ptr id1 2 0)),(4,(vl cS Z5)),(5,(vl cS Z8)),(7,(.v (.str x3))),(25,(.buf (b6+0) x2.length 1)),(26,(vi (x2.length:Int))),(27,(vi s1.1))] [.sl (.buf (b6+0) x2.length 1) 9 1 (x2.map cS) true,.blk id1 44 [(.buf id2 6 7),(vi s1.2.1)],.blk id2 72 (kcells s1.2.2)] V ?_ λe G H=>?_
   ·refine .sp hj2 V ?_ ?_<;>intro h
    ·refine .mV V (.mV V (.wt V V ?_));obtain ⟨x4,q4,h⟩:=bs h;refine .jV q4 V (.pV V (.mV V (.wt V V (.binA (u:=(.v (.str x4))) (w:=(.v (.str x3))) (r:=.bool (!(x4.toList==x3.toList))) V V V (λ_=>Z0K V V) V (.kT V (.nil ?_))))));obtain rfl:=sj h;exact ⟨EI V,H.wk (by omega)⟩
    refine .ps 6 V (.kF V (.nil ?_));obtain rfl:=sj h;exact ⟨EI V,H.wk (by omega)⟩
   refine .na H λH=>?_;refine .wh h V ?_ ?_<;>intro h
   ·refine .tR 1 V H λb10 G H=>(.aV V (.na H λH=>(.ret ?_)));obtain rfl:=sj h;exact ⟨nofun,(.inr ⟨_,V,V,(Ends.H (xs:=[(vb false)]) (.inr V) H (.tmp (v:=(vb false)) V .nil) (.one (.c (.v _))))⟩)⟩
   refine .skip (.tR 9 V H λb11 G H=>(.mP V (.mV V ?_)));replace H:Has G _ _ [.blk id1 44 [(.buf id2 6 7),(vi s1.2.1)],.blk id2 72 (kcells s1.2.2),.sl (.buf (b6+0) x2.length 1) 9 1 (x2.map cS) true]:=H.pick [1,2,0] (by decide);obtain ⟨x5,q5,h⟩:=bs h;refine .callI (cv:=.v (.fn 10)) (ys:=[(.ptr id1 2 0),(.v (.str x3))]) (L:=[.sl (.buf (b6+0) x2.length 1) 9 1 (x2.map cS) true]) [.blk id1 44 [(.buf id2 6 7),(vi s1.2.1)],.blk id2 72 (kcells s1.2.2)] H rfl rfl (λT _ H=>Z2S (g:=x5.1.1) (e:=x5.1.2) (ks':=x5.2.1) (m':=x5.2.2) q5 H) nofun rfl ?_;rintro _ _ G ⟨w3,w4,hw3,hw4,rfl,rfl⟩ H;replace H:Has G _ _ [.blk id1 44 [(.buf id2 6 7),(vi x5.2.2)],.blk id2 72 (kcells x5.2.1),.sl (.buf (b6+0) x2.length 1) 9 1 (x2.map cS) true]:=H;refine .m1 (.tup [(.agg [(vi x5.1.1.Period),(vi x5.1.1.Count),w3,w4]),(vi x5.1.2)]) V V (.xV V (.xV V (.alc (cs:=[(vi 0),(vi 0),.nils,.nils]) H V V λG H=>(.sV [(vi x5.1.1.Period),(vi x5.1.1.Count),w3,w4] H 0 V λG H=>(.aV V (.na H λH=>(.tR 8 V H λb12 G H=>(.mV V ?_))))))));obtain ⟨x6,q6,h⟩:=bs h;refine .cV (Z3q q6) V (.m1 (.tup [(.agg (vF x6.1)),(vi x6.2)]) V V (.xV V (.xV V (.alc (cs:=[(vi 0),(vi 0),.nils,.nils]) H V V λG H=>(.sV (vF x6.1) H 0 V λG H=>(.aV V (.na H λH=>(.tR 9 V H λb13 G H=>?_))))))));refine .mV V (.mV V (.iV V (.mV V ?_)));obtain ⟨y3,hj3,h⟩:=bs h
   refine .md H 5 [(63,(vb y3)),(3,(.ptr id1 2 0)),(4,(vl cS Z5)),(5,(vl cS Z8)),(25,(.buf (b6+0) x2.length 1)),(26,(vi (x2.length:Int))),(27,(vi s1.1))] [.blk id1 44 [(.buf id2 6 7),(vi x5.2.2)],.blk id2 72 (kcells x5.2.1),.sl (.buf (b6+0) x2.length 1) 9 1 (x2.map cS) true] V ?_ λe G H=>?_
   ·refine .sp hj3 V ?_ ?_<;>intro h
    ·refine .ps 4 V (.kT V (.nil ?_));obtain rfl:=sj h;exact ⟨EI V,((H.erase 1).erase 0).wk (by omega)⟩
    refine .LV [(vi x5.1.1.Period),(vi x5.1.1.Count),w3,w4] H 1 V (.LV (vF x6.1) H 0 V (.wt V V ?_));obtain ⟨x7,q7,h⟩:=bs h;refine .Z4N (xs:=[(.agg [(vi x5.1.1.Period),(vi x5.1.1.Count),w3,w4]),(.agg (vF x6.1))]) (ys:=[(.agg (vs (Form.cs (Form.mk x5.1.1.Period x5.1.1.Count x5.1.1.Core x5.1.1.Odd)))),(.agg (vs (Form.cs x6.1)))]) H V (.cons (.a (.cons (.v _) (.cons (.v _) (.cons (.ro hw3) (.cons (.ro hw4) .nil))))) (.cons (.p V) .nil)) (Z3p q7) V nofun V λG H=>(.tV V (.kF V (.nil ?_)));obtain rfl:=sj h;exact ⟨EI V,((H.erase 1).erase 0).wk (by omega)⟩
   refine .na H λH=>?_;refine .wh h V ?_ ?_<;>intro h
   ·refine .tR 1 V H λb14 G H=>(.aV V (.na H λH=>(.ret ?_)));obtain rfl:=sj h;exact ⟨nofun,(.inr ⟨_,V,V,(Ends.H (xs:=[(vb false)]) (.inr V) H (.tmp (v:=(vb false)) V .nil) (.one (.c (.v _))))⟩)⟩
   refine .skip (.ZH 2 V H λb15 G H=>(.iV V (.mV V (.na H λH=>?_))));obtain rfl:=sj h;exact ⟨V,EI V,(H.pick [2,0,1] (by decide))⟩
  refine .exit ?_;obtain rfl:=sj h;exact ⟨nofun,(.inl ⟨_,V,V,EI V,(H.erase 0)⟩)⟩
 ·rintro x e G (⟨a2,rfl,rfl,he,H⟩|⟨r',rfl,rfl,hE⟩)
  ·replace h:=jgo h;obtain ⟨e,rfl⟩:=he.ex;refine .tR 9 V H λb16 G H=>(.mP V ?_);refine .callI (cv:=.v (.fn 13)) (ys:=[(.ptr id1 2 0)]) (L:=[.blk id2 72 (kcells a2.2)]) [.blk id1 44 [(.buf id2 6 7),(vi a2.1)]] H rfl rfl (λT _ H=>made_call H) nofun rfl ?_;rintro _ _ G ⟨rfl,rfl⟩ H;replace H:Has G _ _ [.blk id1 44 [(.buf id2 6 7),(vi a2.1)],.blk id2 72 (kcells a2.2)]:=H;refine .mV V (.nV V (.iV V (.mV V ?_)));refine .md H 2 [(72,(vb ((a2.1==(Z8.length:Int))&&Z1V)))] [] V ?_ λe G H=>?_
   ·refine .split V V ?_ ?_<;>intro hc7
    ·refine .cV (Z3T V) V (.kT V (.nil ?_));exact ⟨⟨and_T hc7,U⟩,((H.erase 1).erase 0).wk (by omega)⟩
    ·refine .ps 1 V (.kF V (.nil ?_));exact ⟨⟨and_F hc7,U⟩,((H.erase 1).erase 0).wk (by omega)⟩
   refine .aV V (.na H λH=>(.ret ?_));obtain rfl:=sj h;exact Ends.eR V
  ·replace h:=jret h;obtain rfl:=sj h;exact hE
end Go.Dn

namespace Go.Dn
open Go Go.Proofs
set_option maxRecDepth 100000
set_option maxHeartbeats 4000000
end Go.Dn

namespace Go.Dn
open Go
theorem Z43 {y:Int} (hy:0<=y):Z0I y=Lp y:=by
 unfold Z0I Lp
 rw [Yc hy,Yc hy,Yc hy,ibeq,ibeq]
 by_cases h:y % 400=0
 ·rw [Z0a h,Z0a (show y % 4=0 by omega)]
  simp
 ·rw [Z0B h]
  by_cases h4:y % 4=0
  ·by_cases h1:y % 100=0
   ·rw [Z0a h4,Z42 h1,Z0B (show ¬ y % 100≠0 by omega)]
    rfl
   ·rw [Z0a h4,bne_t h1,Z0a (show y % 100≠0 from h1)]
    rfl
  ·rw [Z0B h4]
   rfl
theorem Z66 {y:Int} (hy:0<=y):Z0D y=Bg (y+1)-Bg y:=by
 unfold Z0D
 rw [Z43 hy]
 unfold Lp Bg
 rw [show y+1-1=y by omega]
 by_cases h4:y % 4=0
 ·by_cases h1:y % 100=0
  ·by_cases h:y % 400=0
   ·rw [Z0a h4,Z0B (show ¬ y % 100≠0 by omega),Z0a h]
    simp only [Bool.or_true,Bool.and_true,cond_true];omega
   ·rw [Z0a h4,Z0B (show ¬ y % 100≠0 by omega),Z0B h]
    simp only [Bool.or_false,Bool.and_false,cond_false];omega
  ·rw [Z0a h4,Z0a (show y % 100≠0 from h1)];simp only [Bool.true_or,Bool.and_true,cond_true];omega
 ·rw [Z0B h4];simp only [Y09,cond_false];omega
theorem Z69 {y:Int} (h0:1970<=y) (h1:y<=2369):Z4 y=some (Bg y):=by
 have a0:loopO (Z4.s0 y) (0,1970)=some (0,1970):=by
  rw [Z1E];have:Z4.s0 y (0,1970)=some (.inr (0,1970)):=by
   unfold Z4.s0;simp only;rw [ZJ (x:=1970+400) (by omega),Z0B (by omega)]
   rfl
  rw [this]
 have a1:loopO (Z4.s1 y) (0,1970)=some (0,1970):=by
  rw [Z1E];have:Z4.s1 y (0,1970)=some (.inr (0,1970)):=by
   unfold Z4.s1;simp only;rw [ZJ (x:=1970-400) (by omega),Z0B (by omega)]
   rfl
  rw [this]
 have a2:loopO (Z4.s2 y) (0,1970)=some (Bg y,y):=by
  refine Z0e (I:=λ(s:Int×Int) r=>r=(Bg y,y)/\∃ z,s=(Bg z,z)/\1970<=z/\z<=y) (λs=>(y-s.2).toNat) ?_ ⟨rfl,1970,rfl,by omega,h0⟩
  rintro s r ⟨rfl,z,rfl,hz0,hz1⟩;unfold Z4.s2;have b0:=Bg_bd (y:=z) (by omega)
  have b1:=Bg_bd (y:=z+1) (by omega)
  by_cases hlt:z<y
  ·refine .inl ⟨_,?_,⟨rfl,z+1,rfl,by omega,by omega⟩,by simp;omega⟩
   simp only;rw [Z0a hlt,Z66 (by omega),ZJ (x:=z+1) (by omega),ZJ (by omega),show Bg z+(Bg (z+1)-Bg z)=Bg (z+1) by omega]
   rfl
  ·obtain rfl:z=y:=by omega
   refine .inr ?_;simp only;rw [Z0B (by omega)]
   rfl
 have a3:loopO (Z4.s3 y) (Bg y,y)=some (Bg y):=by
  rw [Z1E];have:Z4.s3 y (Bg y,y)=some (.inr (Bg y)):=by
   unfold Z4.s3;simp only;rw [Z0B (by omega)]
   rfl
  rw [this]
 unfold Z4
 rw [a0,Y6]
 simp only
 rw [a1,Y6]
 simp only
 rw [a2,Y6]
 simp only
 rw [a3]
 rfl
theorem Z3A {y:Int} (hy:0<=y) {k:Nat} (h1:1<=k) (hk:k<=12):Z06 y (k:Int)=some (Up y k-Up y (k-1)):=by
 unfold Z06 Up
 rw [Z43 hy]
 match k,h1,hk with
 | 0,h,_=>omega
 | 1,_,_|2,_,_|3,_,_|4,_,_|5,_,_|6,_,_|7,_,_|8,_,_|9,_,_|10,_,_|11,_,_|12,_,_=>cases Lp y<;>rfl
 | k+13,_,h=>omega
theorem Z3w {y:Int} (h0:1970<=y) (h1:y<=2369) {k:Nat} (hk:k<12):Zl y ((k+1:Nat):Int) 1=some (Bg y+Up y k,0):=by
 have hB:=Bg_bd (y:=y) (by omega)
 have hp:=Up_pos y k hk
 have hl:loopO (Zl.s0 y ((k+1:Nat):Int)) (Bg y,1)=some (Bg y+Up y k):=by
  refine Z0e (I:=λ(s:Int×Int) r=>r=Bg y+Up y k/\∃ j:Nat,s=(Bg y+Up y j,((j+1:Nat):Int))/\j<=k) (λs=>k+1-s.2.toNat) ?_ ⟨rfl,0,by rw [show Up y 0=0 by unfold Up;rfl,Int.add_zero];rfl,Y06 _⟩
  rintro s r ⟨rfl,j,rfl,hj⟩;unfold Zl.s0;have b0:=Up_bd y (show j<=12 by omega)
  by_cases hlt:j<k
  ·have b1:=Up_bd y (show j+1<=12 by omega)
   refine .inl ⟨_,?_,⟨rfl,j+1,rfl,hlt⟩,by simp;omega⟩
   simp only;rw [Z0a (by omega),Z3A (by omega) (by omega) (by omega)]
   simp only [cond_true,Y6,Nat.add_sub_cancel];rw [ZJ (by omega),ZJ (by omega)]
   congr 3
   omega
  ·obtain rfl:j=k:=by omega
   refine .inr ?_;simp only;rw [Z0B (by omega)]
   rfl
 have b0:=Up_bd y (show k<=12 by omega)
 unfold Zl
 have hf:((decide (y<(-9999))||decide (y>9999))||decide ((1:Int)<1))=false:=by
  simp only [Y0L,decide_eq_false_iff_not];omega
 rw [hf,Z3A (by omega) (by omega) (by omega)]
 simp only [cond_false,Y6,Nat.add_sub_cancel]
 rw [Z0B (by omega),Z69 h0 h1]
 simp only [cond_false,Y6,hl]
 rw [ZJ (x:=Bg y+Up y k+1) (by omega),ZJ (by omega)]
 congr 2
 omega
theorem Z63 {n:Int} (h:0<=n) (h2:n<=1000000):Z0T n 4800=some (n / 4800):=by
 unfold Z0T
 rw [nz?_ok (by omega)]
 simp only [Y6]
 rw [Yc h,Yu h,Z0B (by omega),ZJ (x:=n / 4800) (by omega)]
 rfl
theorem Z0Y {m:Int} (h0:0<=m) (h1:m<=4800):Ze m=some (Dy m):=by
 unfold Ze
 rw [Z63 h0 (by omega),Y6]
 by_cases h:m=4800
 ·subst h;rw [show (4800:Int) / 4800=1 from rfl,show w64 (1970+w64 ((w64 (4800-w64 (4800*1))).tdiv 12))=1970 from rfl,show w64 ((w64 (4800-w64 (4800*1))).tmod 12+1)=((0+1:Nat):Int) from rfl,Z3w (by omega) (by omega) (by omega)]
  rfl
 ·rw [show m / 4800=0 by omega,show w64 (4800*0)=0 from rfl,Int.sub_zero,ZJ (x:=m) (by omega),Yu h0,Yc h0,ZJ (x:=m / 12) (by omega),ZJ (x:=1970+m / 12) (by omega),ZJ (x:=m % 12+1) (by omega)]
  obtain ⟨k,hk⟩ : ∃ k:Nat,m % 12=k:=⟨(m % 12).toNat,by omega⟩
  have hd:=Z3w (y:=1970+m / 12) (by omega) (by omega) (k:=k) (by omega)
  have hD:=Dy_bd (m:=m) (by omega)
  rw [hk,show (k:Int)+1=((k+1:Nat):Int) by omega,hd,Y6]
  have e:Bg (1970+m / 12)+Up (1970+m / 12) k=Dy m:=by
   unfold Dy;rw [hk,Y0H]
  rw [e,show w64 (146097*0)=0 from rfl,Int.add_zero,ZJ (by omega)]
theorem Z2Y:∀ j,j<6->∀ k,k<6->((Z5.getD j ByteArray.empty).toList==(Z5.getD k ByteArray.empty).toList)=(j==k):=by decide +kernel
theorem tests {v:ByteArray} {j:Nat} (hj:j<6) (h:(v.toList==(Z5.getD j ByteArray.empty).toList)=true) :
  (v.toList==(ByteArray.mk #[116,105,99,107]).toList)=(j==0)/\(v.toList==(ByteArray.mk #[100,97,121]).toList)=(j==1)/\(v.toList==(ByteArray.mk #[119,101,101,107]).toList)=(j==2) /\
  (v.toList==(ByteArray.mk #[109,111,110,116,104]).toList)=(j==3)/\(v.toList==(ByteArray.mk #[113,117,97,114,116,101,114]).toList)=(j==4)/\(v.toList==(ByteArray.mk #[121,101,97,114]).toList)=(j==5):=by
 rw [eq_of_beq h]
 exact ⟨Z2Y j hj 0 (by decide),Z2Y j hj 1 (by decide),Z2Y j hj 2 (by decide),Z2Y j hj 3 (by decide),Z2Y j hj 4 (by decide),Z2Y j hj 5 (by decide)⟩
theorem Z35 {name:ByteArray} {n N:Nat} (hn:1<=n) (hN:n*N=4800) (hg:∀ i:Nat,i<N->ZS name (i:Int)=some (Dy ((i*n:Nat):Int),Dy ((i*n:Nat)+n:Int)-1,true)) (P:Int) :
  loopO (ZA.s0 name (P,(N:Int))) (0,[])=some (Mo n N).Core:=by
 have hN':N<=4800:=by
  have:=YO N hn;omega
 refine Z0e (I:=λ(s:Int×List (List Span)) r=>r=(Mo n N).Core/\∃ k:Nat,s=((k:Int),(List.range k).map λi=>[⟨Dy ((i*n:Nat):Int),Dy ((i*n:Nat)+n:Int)-1⟩])/\k<=N) (λs=>N-s.1.toNat) ?_ ⟨rfl,0,rfl,Y06 _⟩
 rintro s r ⟨rfl,k,rfl,hk⟩
 unfold ZA.s0
 by_cases hlt:k<N
 ·refine .inl ⟨_,?_,⟨rfl,k+1,rfl,hlt⟩,by simp;omega⟩
  simp only;rw [Z0a (by omega),hg k hlt]
  simp only [cond_true,Y6];rw [app?_ok (by simp [Z2w];omega),Y6,ZJ (by omega),List.range_succ,Y03]
  simp
 ·obtain rfl:k=N:=by omega
  refine .inr ?_;simp only;rw [Z0B (by omega)]
  rfl
theorem Z5p {name:ByteArray} {j:Nat} (hj:j<6) (h:(name.toList==(Z5.getD j ByteArray.empty).toList)=true) {n N:Nat} (hjn:(j=3/\n=1/\N=4800)\/(j=4/\n=3/\N=1600)\/(j=5/\n=12/\N=400)) :
  ∀ i:Nat,i<N->ZS name (i:Int)=some (Dy ((i*n:Nat):Int),Dy ((i*n:Nat)+n:Int)-1,true):=by
 intro i hi
 obtain ⟨t0,t1,t2,t3,t4,t5⟩:=tests hj h
 unfold ZS
 rw [t0,t1,t2,t3,t4,t5]
 rcases hjn with ⟨rfl,rfl,rfl⟩|⟨rfl,rfl,rfl⟩|⟨rfl,rfl,rfl⟩
 ·have hD:=Dy_bd (m:=(i:Int)+1) (by omega)
  simp only [show ((3:Nat)==0)=false from rfl,show ((3:Nat)==1)=false from rfl,show ((3:Nat)==2)=false from rfl,show ((3:Nat)==3)=true from rfl,cond_false,cond_true,Y6];rw [ZJ (x:=(i:Int)+1) (by omega),Z0Y (by omega) (by omega),Z0Y (by omega) (by omega)]
  simp only [Y6,Jx.elim];rw [ZJ (by omega),Nat.mul_one]
  rfl
 ·have hD:=Dy_bd (m:=3*(i:Int)+3) (by omega)
  simp only [show ((4:Nat)==0)=false from rfl,show ((4:Nat)==1)=false from rfl,show ((4:Nat)==2)=false from rfl,show ((4:Nat)==3)=false from rfl,show ((4:Nat)==4)=true from rfl,cond_false,cond_true,Y6];rw [ZJ (x:=3*(i:Int)) (by omega),ZJ (x:=3*(i:Int)+3) (by omega),Z0Y (by omega) (by omega),Z0Y (by omega) (by omega)]
  simp only [Y6,Jx.elim];rw [ZJ (by omega),show ((i*3:Nat):Int)=3*(i:Int) by omega]
  rfl
 ·have hD:=Dy_bd (m:=12*(i:Int)+12) (by omega)
  simp only [show ((5:Nat)==0)=false from rfl,show ((5:Nat)==1)=false from rfl,show ((5:Nat)==2)=false from rfl,show ((5:Nat)==3)=false from rfl,show ((5:Nat)==4)=false from rfl,show ((5:Nat)==5)=true from rfl,cond_false,cond_true,Y6];rw [ZJ (x:=12*(i:Int)) (by omega),ZJ (x:=12*(i:Int)+12) (by omega),Z0Y (by omega) (by omega),Z0Y (by omega) (by omega)]
  simp only [Y6,Jx.elim];rw [ZJ (by omega),show ((i*12:Nat):Int)=12*(i:Int) by omega]
  rfl
theorem one_loop {name:ByteArray} {P a b:Int} (hg:ZS name 0=some (a,b,true)):loopO (ZA.s0 name (P,1)) (0,[])=some [[⟨a,b⟩]]:=by
 rw [Z1E]
 have s1:ZA.s0 name (P,1) (0,[])=some (.inl (1,[[⟨a,b⟩]])):=by
  unfold ZA.s0;simp only;rw [Z0a (by omega),hg]
  simp only [cond_true,Y6];rw [app?_ok (by simp [Z2w])]
  rfl
 rw [s1]
 simp only
 rw [Z1E]
 have s2:ZA.s0 name (P,1) (1,[[⟨a,b⟩]])=some (.inr [[⟨a,b⟩]]):=by
  unfold ZA.s0;simp only;rw [Z0B (by omega)]
  rfl
 rw [s2]
theorem mo_pair {n N:Nat} {C:Int} (h:C=(N:Int)):(some (Mo n N).Core).bind (λy4=>some (Form.mk 146097 C y4 [],(0:Int)))=some (Mo n N,0):=by
 subst h
 rfl
theorem Z3I {name:ByteArray} {j:Nat} (hj:j<6) (h:(name.toList==(Z5.getD j ByteArray.empty).toList)=true):ZA name=some (Z00 j,0):=by
 obtain ⟨t0,t1,t2,t3,t4,t5⟩:=tests hj h
 have g0:j=0\/j=1->ZS name 0=some (0,0,true):=λhh=>by
  unfold ZS;rw [t0,t1];rcases hh with rfl|rfl<;>rfl
 have g2:j=2->ZS name 0=some (-3,3,true):=λhh=>by
  unfold ZS;rw [t0,t1,t2];subst hh
  rfl
 have gm:=@Z5p name j hj h
 unfold ZA
 rw [t0,t1,t2,t3,t4,t5]
 obtain rfl|rfl|rfl|rfl|rfl|rfl:j=0\/j=1\/j=2\/j=3\/j=4\/j=5:=by omega
 ·have:=one_loop (P:=1) (g0 (.inl rfl));simp only [show ((0:Nat)==0)=true from rfl,cond_true,Y6,Jx.elim,this]
  rfl
 ·have:=one_loop (P:=1) (g0 (.inr rfl));simp only [show ((1:Nat)==0)=false from rfl,show ((1:Nat)==1)=true from rfl,cond_false,cond_true,Y6,Jx.elim,this]
  rfl
 ·have:=one_loop (P:=7) (g2 rfl);simp only [show ((2:Nat)==0)=false from rfl,show ((2:Nat)==1)=false from rfl,show ((2:Nat)==2)=true from rfl,cond_false,cond_true,Y6,Jx.elim,this]
  rfl
 ·have:=Z35 (n:=1) (N:=4800) (by omega) rfl (gm (.inl ⟨rfl,rfl,rfl⟩)) 146097
  simp only [show ((3:Nat)==0)=false from rfl,show ((3:Nat)==1)=false from rfl,show ((3:Nat)==2)=false from rfl,show ((3:Nat)==3)=true from rfl,cond_false,cond_true,Y6,Jx.elim];rw [show loopO (ZA.s0 name (146097,4800)) (0,[])=some (Mo 1 4800).Core from this];exact mo_pair (by decide)
 ·have:=Z35 (n:=3) (N:=1600) (by omega) rfl (gm (.inr (.inl ⟨rfl,rfl,rfl⟩))) 146097
  simp only [show ((4:Nat)==0)=false from rfl,show ((4:Nat)==1)=false from rfl,show ((4:Nat)==2)=false from rfl,show ((4:Nat)==3)=false from rfl,show ((4:Nat)==4)=true from rfl,cond_false,cond_true,Y6,Jx.elim];rw [show loopO (ZA.s0 name (146097,1600)) (0,[])=some (Mo 3 1600).Core from this];exact mo_pair (by decide)
 ·have:=Z35 (n:=12) (N:=400) (by omega) rfl (gm (.inr (.inr ⟨rfl,rfl,rfl⟩))) 146097
  simp only [show ((5:Nat)==0)=false from rfl,show ((5:Nat)==1)=false from rfl,show ((5:Nat)==2)=false from rfl,show ((5:Nat)==3)=false from rfl,show ((5:Nat)==4)=false from rfl,show ((5:Nat)==5)=true from rfl,cond_false,cond_true,Y6,Jx.elim];rw [show loopO (ZA.s0 name (146097,400)) (0,[])=some (Mo 12 400).Core from this];exact mo_pair (by decide)
theorem Z5g {name:ByteArray} (h:∀ j,j<6->(name.toList==(Z5.getD j ByteArray.empty).toList)=false):ZA name=some (⟨0,0,[],[]⟩,80):=by
 unfold ZA
 rw [show (name.toList==(ByteArray.mk #[116,105,99,107]).toList)=false from h 0 (by decide),show (name.toList==(ByteArray.mk #[100,97,121]).toList)=false from h 1 (by decide),show (name.toList==(ByteArray.mk #[119,101,101,107]).toList)=false from h 2 (by decide),
  show (name.toList==(ByteArray.mk #[109,111,110,116,104]).toList)=false from h 3 (by decide),show (name.toList==(ByteArray.mk #[113,117,97,114,116,101,114]).toList)=false from h 4 (by decide),show (name.toList==(ByteArray.mk #[121,101,97,114]).toList)=false from h 5 (by decide)]
 rfl
theorem spans_refl {a:List Span} (hl:a.length<=100000):Za a a=some true:=by
 unfold Za
 rw [Z42 rfl]
 have:loopO (Za.s0 a a) 0=some (.go ()):=by
  refine Z0e (I:=λ(i:Int) r=>r = .go ()/\∃ k:Nat,i=k/\k<=a.length) (λi=>a.length-i.toNat) ?_ ⟨rfl,0,rfl,Y06 _⟩;rintro i r ⟨rfl,k,rfl,hk⟩;unfold Za.s0
  by_cases hlt:k<a.length
  ·refine .inl ⟨_,?_,⟨rfl,k+1,rfl,hlt⟩,by simp;omega⟩
   rw [Z0a (by omega),at?_nat hlt]
   simp only [cond_true,Y6,beq_self_eq_true,Yq,Bool.not_true,cond_false];rw [ZJ (by omega)]
   simp
  ·refine .inr ?_;rw [Z0B (by omega)]
   rfl
 simp only [cond_false,this,Y6,Jx.elim]
theorem same_refl {f:Form} (ho:f.Odd=[]) (hl:f.Core.length<=100000) (hr:∀ r∈f.Core,r.length<=100000):ZB f f=some true:=by
 unfold ZB
 rw [Z42 rfl,Z42 rfl,Z42 rfl,Z42 rfl]
 have h0:loopO (ZB.s0 f f) 0=some (.go ()):=by
  refine Z0e (I:=λ(i:Int) r=>r = .go ()/\∃ k:Nat,i=k/\k<=f.Core.length) (λi=>f.Core.length-i.toNat) ?_ ⟨rfl,0,rfl,Y06 _⟩;rintro i r ⟨rfl,k,rfl,hk⟩;unfold ZB.s0
  by_cases hlt:k<f.Core.length
  ·refine .inl ⟨_,?_,⟨rfl,k+1,rfl,hlt⟩,by simp;omega⟩
   rw [Z0a (by omega),at?_nat hlt]
   simp only [cond_true,Y6,spans_refl (hr _ (List.getElem_mem hlt)),Bool.not_true,cond_false];rw [ZJ (by omega)]
   simp
  ·refine .inr ?_;rw [Z0B (by omega)]
   rfl
 have h1:loopO (ZB.s1 f f) 0=some (.go ()):=by
  rw [Z1E];unfold ZB.s1;rw [ho]
  rfl
 simp only [Bool.or_self,cond_false,h0,h1,Y6,Jx.elim]
end Go.Dn

namespace Go.Dn
open Go
def Z20 (i:Nat):List (Option Form):=(List.range 6).map λj=>if j<i then some (Z00 j) else none
theorem madeTo_step:∀ i,i<6->(Z20 i).length=6/\(Z20 i)[i]? = some none/\(Z20 i).set i (some (Z00 i))=Z20 (i+1)
 | 0,_|1,_|2,_|3,_|4,_|5,_=>⟨rfl,rfl,rfl⟩
 | i+6,h=>by omega
theorem madeTo_all:∀ j,j<6->(Z20 6)[j]? = some (some (Z00 j))
 | 0,_|1,_|2,_|3,_|4,_|5,_=>rfl
 | i+6,h=>by omega
set_option maxRecDepth 100000 in
theorem Z5f (name:ByteArray) (o:okS name):ZK name=some true:=by
 have hsame:∀ j,j<6->ZB (Z00 j) (Z00 j)=some true:=λj hj=>by
  obtain ⟨_,h2,h3,h4⟩:=made_core hj;exact same_refl h2 (by omega) λr hr=>by have:=h4 r hr;omega
 have hz:ZB ⟨0,0,[],[]⟩ ⟨0,0,[],[]⟩=some true:=same_refl rfl (by simp) (by simp)
 have hlen:(Z8++[name]).length=7:=rfl
 have hl:loopO (ZK.s0 (Z8++[name])) (0,0,[none,none,none,none,none,none])=some (.go (6,Z20 6)):=by
  refine Z0e (I:=λ(s:Int×Int×List (Option Form)) r=>r = .go (6,Z20 6)/\((∃ i:Nat,i<=6/\s=((i:Int),(i:Int),Z20 i))\/s=(7,6,Z20 6))) (λs=>7-s.1.toNat) ?_ ⟨rfl,.inl ⟨0,by omega,rfl⟩⟩
  rintro s r ⟨rfl,⟨i,hi,rfl⟩|rfl⟩
  ·by_cases h6:i<6
   ·refine .inl ⟨((i+1:Nat),(i+1:Nat),Z20 (i+1)),?_,⟨rfl,.inl ⟨i+1,by omega,rfl⟩⟩,by simp;omega⟩
    have hx:at? (Z8++[name]) (i:Int)=some (Z5.getD i ByteArray.empty):=by
     rw [at?_nat (by omega)]
     match i,h6 with
     | 0,_|1,_|2,_|3,_|4,_|5,_=>rfl
     | i+6,h=>omega
    have hb:at? Z5 (i:Int)=some (Z5.getD i ByteArray.empty):=by
     match i,h6 with
     | 0,_|1,_|2,_|3,_|4,_|5,_=>rfl
     | i+6,h=>omega
    obtain ⟨m1,m2,m3⟩:=madeTo_step i h6;unfold ZK.s0;simp only;rw [Z0a (by omega),hx]
    simp only [cond_true,Y6];rw [Z0a (show (i:Int)<(Z8.length:Int) by show (i:Int)<6;omega),hb]
    simp only [cond_true,Y6,beq_self_eq_true,Bool.not_true,cond_false];rw [cal_new (j:=i) h6 (beq_self_eq_true _) m1 m2 (by omega),Z3I h6 (beq_self_eq_true _)]
    simp only [Y6,m3];rw [Z42 rfl];simp only [cond_false];rw [show ZB (Form.mk (Z00 i).Period (Z00 i).Count (Z00 i).Core (Z00 i).Odd) (Z00 i)=some true from hsame i h6];simp only [Y6,Bool.not_true,cond_false];rw [ZJ (by omega)]
    rfl
   ·obtain rfl:i=6:=by omega
    refine .inl ⟨(7,6,Z20 6),?_,⟨rfl,.inr rfl⟩,by simp⟩
    have hx:at? (Z8++[name]) ((6:Nat):Int)=some name:=rfl;unfold ZK.s0;simp only;rw [Z0a (by omega),hx]
    simp only [cond_true,Y6];rw [Z0B (show ¬ ((6:Nat):Int)<(Z8.length:Int) by show ¬ (6:Int)<6;omega)]
    simp only [cond_false,Y6]
    by_cases hh:∃ j,j<6/\(name.toList==(Z5.getD j ByteArray.empty).toList)=true
    ·obtain ⟨j,hj,h⟩:=hh;rw [cal_old hj h rfl (madeTo_all j hj),Z3I hj h];simp only [Y6];rw [Z42 rfl];simp only [cond_false];rw [show ZB (Form.mk (Z00 j).Period (Z00 j).Count (Z00 j).Core (Z00 j).Odd) (Z00 j)=some true from hsame j hj]
     rfl
    ·have h:∀ j,j<6->(name.toList==(Z5.getD j ByteArray.empty).toList)=false:=λj hj=>by
      cases hc:(name.toList==(Z5.getD j ByteArray.empty).toList) with
      | false=>rfl
      | true=>exact absurd ⟨j,hj,hc⟩ hh
     rw [cal_no h rfl,Z5g h];simp only [Y6];rw [Z42 rfl];simp only [cond_false];rw [hz]
     rfl
  ·refine .inr ?_;unfold ZK.s0;simp only;rw [Z0B (by omega)]
   rfl
 unfold ZK
 rw [Z42 (show (Z5.length:Int)=(Z8.length:Int) from rfl)]
 simp only [cond_false]
 rw [app?_ok (by rw [Z2w];show (0+6)*16<=_;omega),Y6,List.nil_append,app?_ok (by rw [Z2w];show (6+1)*16<=_;omega),Y6,hl]
 rfl
end Go.Dn
