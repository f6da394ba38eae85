/- Part 5 of what the row stands on. -/
import Derived.Test.YtobglidemkpmaaaGreatM4
set_option linter.unusedVariables false
set_option linter.unusedSimpArgs false
namespace Go.Dn
open Go
def In64 (a:Int):Prop:=-9223372036854775808<=a/\a<=9223372036854775807
def Z8T (a:Int):Prop:=0<=a/\a<=18446744073709551615
def fitS (a:Int):Int×Int:=if -9223372036854775808<=a/\a<=9223372036854775807 then (a,0) else (0,10)
theorem fitS_of {a:Int} (h:In64 a):fitS a=(a,0):=if_pos h
theorem fitS_not {a:Int} (h:¬ In64 a):fitS a=(0,10):=if_neg h
theorem fit_or (x:Int):(In64 x/\fitS x=(x,0))\/(¬ In64 x/\fitS x=(0,10)):=by
 by_cases h:In64 x
 ·exact .inl ⟨h,fitS_of h⟩
 ·exact .inr ⟨h,fitS_not h⟩
theorem and32 (x:Int) (h:Z8T x):(((BitVec.ofInt 64 x &&& BitVec.ofInt 64 4294967295).toNat:Nat):Int)=x % 4294967296:=by
 obtain ⟨n,rfl⟩:=Int.eq_ofNat_of_zero_le h.1
 have hn:n<2 ^ 64:=by have:=h.2;omega
 have h1:(BitVec.ofInt 64 (n:Int)).toNat=n:=by simp [BitVec.toNat_ofInt];omega
 have h2:(BitVec.ofInt 64 4294967295).toNat=2 ^ 32-1:=by decide
 rw [BitVec.toNat_and,h1,h2,Nat.and_two_pow_sub_one_eq_mod]
 omega
theorem mul64_fact {x y:Int} (hx:Z8T x) (hy:Z8T y) :
  (x / 4294967296*(y / 4294967296)+(x / 4294967296*(y % 4294967296)+x % 4294967296*(y % 4294967296) / 4294967296) / 4294967296 +
   ((x / 4294967296*(y % 4294967296)+x % 4294967296*(y % 4294967296) / 4294967296) % 4294967296+x % 4294967296*(y / 4294967296)) / 4294967296)=x*y / 18446744073709551616 /\
  0<=x % 4294967296*(y % 4294967296)/\x % 4294967296*(y % 4294967296)<=18446744065119617025 /\
  0<=x / 4294967296*(y % 4294967296)/\x / 4294967296*(y % 4294967296)<=18446744065119617025 /\
  0<=x % 4294967296*(y / 4294967296)/\x % 4294967296*(y / 4294967296)<=18446744065119617025 /\
  0<=x / 4294967296*(y / 4294967296)/\x / 4294967296*(y / 4294967296)<=18446744065119617025:=by
 have b:∀ {u v:Int},0<=u->u<=4294967295->0<=v->v<=4294967295->0<=u*v/\u*v<=18446744065119617025:=by
  intro u v h1 h2 h3 h4;exact ⟨Int.mul_nonneg h1 h3,Int.le_trans (Int.mul_le_mul h2 h4 h3 (by omega)) (by decide)⟩
 obtain ⟨hx1,hx2⟩:=hx
 obtain ⟨hy1,hy2⟩:=hy
 obtain ⟨a1,a2⟩:=b (u:=x % 4294967296) (v:=y % 4294967296) (by omega) (by omega) (by omega) (by omega)
 obtain ⟨b1,b2⟩:=b (u:=x / 4294967296) (v:=y % 4294967296) (by omega) (by omega) (by omega) (by omega)
 obtain ⟨c1,c2⟩:=b (u:=x % 4294967296) (v:=y / 4294967296) (by omega) (by omega) (by omega) (by omega)
 obtain ⟨d1,d2⟩:=b (u:=x / 4294967296) (v:=y / 4294967296) (by omega) (by omega) (by omega) (by omega)
 refine ⟨?_,a1,a2,b1,b2,c1,c2,d1,d2⟩
 have e:x*y=x / 4294967296*(y / 4294967296)*18446744073709551616+(x / 4294967296*(y % 4294967296)+x % 4294967296*(y / 4294967296))*4294967296+x % 4294967296*(y % 4294967296):=by
  have ex:x=x / 4294967296*4294967296+x % 4294967296:=by omega
  have ey:y=y / 4294967296*4294967296+y % 4294967296:=by omega
  clear a1 a2 b1 b2 c1 c2 d1 d2 b hx1 hx2 hy1 hy2
  generalize x / 4294967296=x1 at *
  generalize x % 4294967296=x0 at *
  generalize y / 4294967296=y1 at *
  generalize y % 4294967296=y0 at *
  subst ex ey;simp only [Y1B,Y0m];have h1:x1*4294967296*(y1*4294967296)=x1*y1*18446744073709551616:=by
   rw [Y0r,Y02 4294967296,Y0r y1,<- Y0r]
   rfl
  have h2:x1*4294967296*y0=x1*y0*4294967296:=by rw [Y0r,Y02 4294967296,<- Y0r]
  have h3:x0*(y1*4294967296)=x0*y1*4294967296:=by rw [<- Y0r]
  rw [h1,h2,h3];omega
 rw [e]
 generalize x / 4294967296*(y / 4294967296)=d at *
 generalize x / 4294967296*(y % 4294967296)=b' at *
 generalize x % 4294967296*(y / 4294967296)=c at *
 generalize x % 4294967296*(y % 4294967296)=a at *
 omega
theorem Z8l {a b:Int} (ha:In64 a) (hb:In64 b):Zc a b=fitS (a+b):=by
 unfold In64 at ha hb
 unfold Zc fitS w64
 rw [Z6E]
 cases h:((decide ((a+b+9223372036854775808) % 18446744073709551616-9223372036854775808>a) != decide (b>0))&&b != 0)
 ·rw [cond_false];simp only [Y0a,bne_eq_false_iff_eq,decide_eq_decide] at h
  split<;>simp only [Y3,and_true]<;>omega
 ·rw [cond_true];simp only [Y8,bne_iff_ne,ne_eq,decide_eq_decide] at h
  split<;>simp only [Y3]<;>omega
theorem ZBC {a:Int} (h:In64 a):Z1q a=a.natAbs:=by
 unfold In64 at h
 unfold Z1q
 rw [pickB]
 simp only [decide_eq_true_eq,Z5U]
 split<;>omega
theorem inU_abs {a:Int} (h:In64 a):Z8T a.natAbs:=by unfold In64 at h;unfold Z8T;omega
theorem natAbs_prod (a b:Int):(a.natAbs:Int)*b.natAbs=(a*b).natAbs:=by rw [Int.natAbs_mul];simp
theorem mul64_eq {x y:Int} (hx:Z8T x) (hy:Z8T y):Z0I x y=(x*y / 18446744073709551616,x*y % 18446744073709551616):=by
 unfold Z0I
 have hb:∀ z:Int,z.fdiv (2 ^ 32)=z / 4294967296:=λz=>Y0Z z (by decide)
 have hm:(IntKind.u64.bits)=64:=rfl
 obtain ⟨h1,h2,h3,h4,h5,h6,h7,h8,h9⟩:=mul64_fact hx hy
 have hw:∀ z:Int,0<=z->z<=18446744073709551615->IntKind.u64.wrap z=z:=λz q1 q2=>by rw [Z5U];omega
 simp only [hb,iAnd]
 rw [hm,and32 x hx,and32 y hy]
 have x0:0<=x % 4294967296/\x % 4294967296<4294967296:=by omega
 have y0:0<=y % 4294967296/\y % 4294967296<4294967296:=by omega
 rw [hw (x % 4294967296) (by omega) (by omega),hw (y % 4294967296) (by omega) (by omega),hw _ h2 (by omega),hw _ h4 (by omega),hw _ h6 (by omega),hw _ h8 (by omega)]
 rw [hw (x / 4294967296*(y % 4294967296)+x % 4294967296*(y % 4294967296) / 4294967296) (by omega) (by omega)]
 rw [and32 _ ⟨by omega,by omega⟩]
 have t0:0<=(x / 4294967296*(y % 4294967296)+x % 4294967296*(y % 4294967296) / 4294967296) % 4294967296/\(x / 4294967296*(y % 4294967296)+x % 4294967296*(y % 4294967296) / 4294967296) % 4294967296<4294967296:=by omega
 rw [hw ((x / 4294967296*(y % 4294967296)+x % 4294967296*(y % 4294967296) / 4294967296) % 4294967296) (by omega) (by omega)]
 rw [hw ((x / 4294967296*(y % 4294967296)+x % 4294967296*(y % 4294967296) / 4294967296) % 4294967296+x % 4294967296*(y / 4294967296)) (by omega) (by omega)]
 rw [hw (x / 4294967296*(y / 4294967296)+(x / 4294967296*(y % 4294967296)+x % 4294967296*(y % 4294967296) / 4294967296) / 4294967296) (by omega) (by omega)]
 rw [hw _ (by omega) (by omega),h1,Z5U]
theorem ZDm {n:Int} (m:Bool) (h:Z8T n):Z4X n m=fitS (if m then -n else n):=by
 unfold Z8T at h
 unfold Z4X fitS w64
 rw [pickB,pickB,Z5U,Z6E,Z6E]
 cases m<;>simp only [Y0q,Y0j,YD,Yx,decide_eq_true_eq,Y6,if_false,if_true]
 ·split
  ·rw [if_pos (by omega)];simp only [Y3,and_true];omega
  ·rw [if_neg (by omega)]
 ·split
  ·rw [if_pos (by omega)];simp only [Y3,and_true];omega
  ·rw [if_neg (by omega)]
theorem safe_Mul_eq {a b:Int} (ha:In64 a) (hb:In64 b):Z4A a b=fitS (a*b):=by
 unfold Z4A
 rw [ZBC ha,ZBC hb,mul64_eq (inU_abs ha) (inU_abs hb),pickB]
 simp only [natAbs_prod]
 rw [ZDm _ (by unfold Z8T;omega)]
 by_cases h:((a*b).natAbs:Int) / 18446744073709551616=0
 ·rw [if_neg (by simp [h])]
  have e:((a*b).natAbs:Int) % 18446744073709551616=(a*b).natAbs:=by omega
  rw [e];show fitS _=_;refine congrArg fitS ?_
  by_cases h1:a<0<;>by_cases h2:b<0<;>simp only [h1,h2,decide_true,decide_false]
  ·have:=Int.mul_nonneg_of_nonpos_of_nonpos (Y1E h1) (Y1E h2)
   simp;omega
  ·have:=Int.mul_nonpos_of_nonpos_of_nonneg (Y1E h1) (Int.not_lt.1 h2)
   simp;omega
  ·have:=Int.mul_nonpos_of_nonneg_of_nonpos (Int.not_lt.1 h1) (Y1E h2)
   simp;omega
  ·have:=Int.mul_nonneg (Int.not_lt.1 h1) (Int.not_lt.1 h2)
   simp;omega
 ·rw [if_pos (by simp [h])]
  unfold fitS;rw [if_neg];omega
def ZA0 (a b:Int):Int×Int×Int:=if b=0 then (0,0,11) else if b = -1/\a = -9223372036854775808 then (0,0,10) else (a.fdiv b,a.fmod b,0)
theorem floor_up {a b:Int} (hb:b≠0) (h1:a.tmod b≠0) (h2:¬(a.tmod b<0↔b<0)):a.fdiv b=a.tdiv b-1/\a.fmod b=a.tmod b+b:=by
 have q1:=Yt a hb
 have q2:=Int.emod_lt a hb
 have hd:b∣a↔a % b=0:=Int.dvd_iff_emod_eq_zero
 rw [Int.fdiv_eq_ediv,Int.fmod_eq_emod,Int.tdiv_eq_ediv]
 rw [Int.tmod_eq_emod] at h1 h2 ⊢
 simp only [hd] at h1 h2 ⊢
 rcases Int.lt_or_gt_of_ne hb with h|h
 ·rw [Int.sign_eq_neg_one_of_neg h]
  split at h1<;>split<;>simp_all<;>omega
 ·rw [Int.sign_eq_one_of_pos h]
  split at h1<;>split<;>simp_all<;>omega
theorem ZDr {a b:Int} (hb:b≠0) (h:a.tmod b=0\/(a.tmod b<0↔b<0)):a.fdiv b=a.tdiv b/\a.fmod b=a.tmod b:=by
 have q1:=Yt a hb
 have q2:=Int.emod_lt a hb
 have hd:b∣a↔a % b=0:=Int.dvd_iff_emod_eq_zero
 rw [Int.fdiv_eq_ediv,Int.fmod_eq_emod,Int.tdiv_eq_ediv]
 rw [Int.tmod_eq_emod] at h ⊢
 simp only [hd] at h ⊢
 rcases Int.lt_or_gt_of_ne hb with hh|hh
 ·rw [Int.sign_eq_neg_one_of_neg hh]
  split at h<;>split<;>simp_all<;>omega
 ·rw [Int.sign_eq_one_of_pos hh]
  split at h<;>split<;>simp_all<;>omega
theorem tdiv_in {a b:Int} (ha:In64 a) (hb:b≠0) (hn:¬(b = -1/\a = -9223372036854775808)):In64 (a.tdiv b):=by
 have h:(a.tdiv b).natAbs=a.natAbs / b.natAbs:=Int.natAbs_tdiv a b
 obtain ⟨h1,h2⟩:=ha
 by_cases hb1:b=1
 ·subst hb1;rw [Int.tdiv_one];exact ⟨h1,h2⟩
 ·by_cases hb2:b = -1
  ·have ha':a ≠ -9223372036854775808:=λe=>hn ⟨hb2,e⟩;have:a.natAbs / b.natAbs<=a.natAbs:=Nat.div_le_self _ _;unfold In64;omega
  ·have h3:a.natAbs / b.natAbs<=a.natAbs / 2:=Nat.div_le_div_left (by omega) (by omega)
   unfold In64;omega
theorem tdiv_in1 {a b:Int} (ha:In64 a) (hb:b≠0) (h1:a.tmod b≠0):In64 (a.tdiv b-1):=by
 have h:(a.tdiv b).natAbs=a.natAbs / b.natAbs:=Int.natAbs_tdiv a b
 obtain ⟨h2,h3⟩:=ha
 by_cases hb1:b=1
 ·subst hb1;simp at h1
 ·by_cases hb2:b = -1
  ·subst hb2;simp at h1
  ·have h3:a.natAbs / b.natAbs<=a.natAbs / 2:=Nat.div_le_div_left (by omega) (by omega)
   unfold In64;omega
theorem tmod_in {a b:Int} (hb:In64 b) (hb0:b≠0):In64 (a.tmod b):=by
 have h:(a.tmod b).natAbs=a.natAbs % b.natAbs:=Int.natAbs_tmod a b
 have:a.natAbs % b.natAbs<b.natAbs:=Nat.mod_lt _ (by omega)
 unfold In64 at *;omega
theorem wrap_in {a:Int} (h:In64 a):IntKind.i64.wrap a=a:=by rw [Z6E];unfold In64 at h;omega
theorem fmod_in {a b:Int} (hb:In64 b) (hb0:b≠0):In64 (a.fmod b):=by
 have q1:=Yt a hb0
 have q2:=Int.emod_lt a hb0
 rw [Int.fmod_eq_emod]
 unfold In64 at *
 split<;>omega
theorem floor_leaf1 {a b:Int} (ha:In64 a) (hb:In64 b) (h0:b≠0) (hn:¬(b = -1/\a = -9223372036854775808)) (h1:a.tmod b≠0) (h2:¬(a.tmod b<0↔b<0)) :
  (IntKind.i64.wrap (IntKind.i64.wrap (a.tdiv b)-1),IntKind.i64.wrap (a.tmod b+b),(0:Int))=ZA0 a b:=by
 obtain ⟨e1,e2⟩:=floor_up h0 h1 h2
 rw [ZA0,if_neg h0,if_neg hn,e1,e2,wrap_in (tdiv_in ha h0 hn),wrap_in (tdiv_in1 ha h0 h1),wrap_in (by rw [<- e2];exact fmod_in hb h0)]
theorem floor_leaf2 {a b:Int} (ha:In64 a) (hb:In64 b) (h0:b≠0) (hn:¬(b = -1/\a = -9223372036854775808)) (h:a.tmod b=0\/(a.tmod b<0↔b<0)) :
  (IntKind.i64.wrap (a.tdiv b),a.tmod b,(0:Int))=ZA0 a b:=by
 obtain ⟨e1,e2⟩:=ZDr h0 h
 rw [ZA0,if_neg h0,if_neg hn,e1,e2,wrap_in (tdiv_in ha h0 hn)]
theorem Z49 {a b:Int} (ha:In64 a) (hb:In64 b):Z1D a b=some (ZA0 a b):=by
 unfold Z1D
 by_cases h0:b=0
 ·subst h0;rfl
 rw [Z5p h0,cond_false]
 by_cases hn:b = -1/\a = -9223372036854775808
 ·obtain ⟨rfl,rfl⟩:=hn
  rfl
 have:(b == -1&&a == -9223372036854775808)=false:=by
  simp only [Y0a,beq_eq_false_iff_ne]
  by_cases h:b = -1
  ·exact .inr λe=>hn ⟨h,e⟩
  ·exact .inl h
 rw [this,cond_false,nz?_ok h0]
 simp only [Y0,pickB,Y8,bne_iff_ne,ne_eq,decide_eq_decide]
 split
 ·rename_i h;simp only [Y0];exact congrArg some (floor_leaf1 ha hb h0 hn h.1 h.2)
 ·rename_i h;simp only [Y0];refine congrArg some (floor_leaf2 ha hb h0 hn ?_)
  by_cases h1:a.tmod b=0
  ·exact .inl h1
  ·exact .inr (Classical.byContradiction λh2=>h ⟨h1,h2⟩)
theorem Z4v {a b:Int} (hb:0<b):a.fdiv b=a / b/\a.fmod b=a % b:=⟨Y0Z a (Y1E hb),Int.fmod_eq_emod_of_nonneg a (Y1E hb)⟩
theorem Z6L {a b:Int} (hb:0<b):ZA0 a b=(a / b,a % b,0):=by
 unfold ZA0
 rw [if_neg (by omega),if_neg (by omega),(Z4v hb).1,(Z4v hb).2]
end Go.Dn

namespace Go.Dn
open Go
theorem Z1i:reachBytes=140737488351232:=rfl
def ZI (t:Int):Prop:=-1099511627776<=t/\t<=1099511627776
instance (t:Int):Decidable (ZI t):=by unfold ZI;infer_instance
theorem Z7A (t:Int):Z1A t=decide (ZI t):=by
 rw [Bool.eq_iff_iff,decide_eq_true_iff];simp [Z1A,ZI]
theorem Z8A (t:Int):Z1P t=decide (ZI t):=by
 rw [Bool.eq_iff_iff,decide_eq_true_iff];simp [Z1P,ZI]
theorem Z41 {t:Int} (h:ZI t):In64 t:=by unfold ZI at h;unfold In64;omega
structure RightL (l:List Span):Prop where
 ok:∀ (k:Nat) (s:Span),l[k]? = some s->ZI s.From/\ZI s.To/\s.From<=s.To
 gap:∀ (k:Nat) (s t:Span),l[k]? = some s->l[k+1]? = some t->s.To+2<=t.From
abbrev Len (l:List Span):Prop:=l.length*16<=reachBytes
abbrev Sp64 (l:List Span):Prop:=∀ s∈l,In64 s.From/\In64 s.To
theorem Span.ok64 {s:Span} (h:s.ok):In64 s.From/\In64 s.To:=h
theorem okSpans {l:List Span} (h:okL 16 Span.ok l):Len l/\Sp64 l:=⟨h.1,λs hs=>Span.ok64 (h.2 s hs)⟩
theorem RightL.sp64 {l:List Span} (h:RightL l):Sp64 l:=λs hs=>by
 obtain ⟨k,hk⟩:=YC hs
 have:=h.ok k s hk
 exact ⟨Z41 this.1,Z41 this.2.1⟩
def Z5b (l:List Span) (k:Nat) (s:Span):Prop:=ZI s.From/\ZI s.To/\s.From<=s.To/\∀ p,k≠0->l[k-1]? = some p->p.To+2<=s.From
theorem Z8N {l:List Span}:RightL l ↔ ∀ k s,l[k]? = some s->Z5b l k s:=by
 constructor
 ·intro h k s hk;obtain ⟨h1,h2,h3⟩:=h.ok k s hk;refine ⟨h1,h2,h3,λp h0 hp=>?_⟩;have:k-1+1=k:=by omega
  exact h.gap (k-1) p s hp (by rw [this];exact hk)
 ·intro h;refine ⟨λk s hk=>⟨(h k s hk).1,(h k s hk).2.1,(h k s hk).2.2.1⟩,λk s t hs ht=>(h (k+1) t ht).2.2.2 s (by omega) (by simpa using hs)⟩
theorem Z94 {l:List Span} (hl:Len l) (h64:Sp64 l):∃ b,Z0e l=some b/\(b=true↔RightL l):=by
 have hlen:l.length<=maxLen:=by rw [ZBX];have:=Z1i;unfold Len at hl;omega
 have step:∀ (k:Nat) (s:Span),l[k]? = some s->(∀ j y,j<k->l[j]? = some y->Z5b l j y)->∃ b,Z0e.s0 l (k:Int)=(if b=true then some (.inl ((k:Int)+1)) else some (.inr (.ret false)))/\(b=true↔Z5b l k s):=by
  intro k s hk hprev;have hlt:=(List.getElem?_eq_some_iff.1 hk).1;have hat:at? l (k:Int)=some s:=by rw [at?_nat hlt];rw [Y2 hlt] at hk;exact hk
  unfold Z0e.s0;rw [ZK (show (k:Int)<l.length by omega),cond_true,hat]
  simp only [Y0,Z7A];have hk1:w64 ((k:Int)+1)=k+1:=Z3 (by rw [ZBX] at hlen;omega)
  by_cases h1:ZI s.From/\ZI s.To/\s.From<=s.To
  ·have:(!decide (ZI s.From) || !decide (ZI s.To)||decide (s.From>s.To))=false:=by
    rw [ZK h1.1,ZK h1.2.1,ZH (by omega)];rfl
   rw [this,cond_false]
   by_cases h0:k=0
   ·subst h0;refine ⟨true,by simp [w64];rw [Z6E];rfl,by simp [Z5b,h1]⟩
   ·have hk0:(k:Int)>0:=by omega
    have hpl:k-1<l.length:=by omega
    have hp:at? l (w64 ((k:Int)-1))=some l[k-1]:=by
     rw [Z3 (by rw [ZBX] at hlen;omega),show ((k:Int)-1)=((k-1:Nat):Int) by omega,at?_nat hpl]
    have hpg:=hprev (k-1) _ (by omega) (Y2 hpl)
    have hpt:w64 (l[k-1].To+2)=l[k-1].To+2:=by
     have:=hpg.2.1;unfold ZI at this;exact Z3 (by omega)
    rw [ZK hk0,cond_true,hp];simp only [Y0,hpt];refine ⟨!decide (s.From<l[k-1].To+2),?_,?_⟩
    ·cases hd:decide (s.From<l[k-1].To+2)<;>simp [hk1]
    ·simp only [YP,decide_eq_false_iff_not,Z5b]
     constructor
     ·intro h;refine ⟨h1.1,h1.2.1,h1.2.2,λp _ hp'=>?_⟩;rw [Y2 hpl] at hp';cases hp';omega
     ·intro h;have:=h.2.2.2 _ h0 (Y2 hpl);omega
  ·refine ⟨false,?_,by simp only [Y6,Z5b,false_iff];intro h;exact h1 ⟨h.1,h.2.1,h.2.2.1⟩⟩
   have:(!decide (ZI s.From) || !decide (ZI s.To)||decide (s.From>s.To))=true:=by
    by_cases a1:ZI s.From
    ·by_cases a2:ZI s.To
     ·have a3:s.From>s.To:=by
       apply Classical.byContradiction;intro h;exact h1 ⟨a1,a2,by omega⟩
      rw [ZK a3];simp
     ·rw [ZH a2];simp
    ·rw [ZH a1];simp
   rw [this];rfl
 unfold Z0e
 rcases Z2d (l:=l) (step:=Z0e.s0 l) (Z5b l) (no:=.ret false) (yes:=.go ()) (λk x hk hp=>by
   obtain ⟨b,h1,h2⟩:=step k x hk hp;cases b
   ·exact .inr ⟨h1,λh=>by have:=h2.2 h;cases this⟩
   ·exact .inl ⟨h1,h2.1 rfl⟩) (by
   unfold Z0e.s0;rw [ZH (by omega)];rfl) with ⟨h1,h2⟩|⟨h1,h2⟩
 ·rw [h1];exact ⟨true,rfl,by simp [Z8N.2 h2]⟩
 ·rw [h1];exact ⟨false,rfl,by simp only [Y6,false_iff];exact λh=>h2 (Z8N.1 h)⟩
def Zz (by_:Int) (s:Span):Span:=⟨s.From+by_,s.To+by_⟩
theorem Z9e {l:List Span} {b:Int} (hl:Len l) (h64:Sp64 l) (hb:In64 b) :
  ((∀ s∈l,ZI (s.From+b)/\ZI (s.To+b))/\Z0h l b=some (l.map (Zz b),0))\/((¬ ∀ s∈l,ZI (s.From+b)/\ZI (s.To+b))/\Z0h l b=some ([],20)):=by
 have hlen:(l.length:Int)<9223372036854775807:=by have:=Z1i;unfold Len at hl;omega
 have step:∀ (k:Nat) (s:Span) (acc:List Span),l[k]? = some s->acc.length=k->Z0h.s0 l b ((k:Int),acc)=if ZI (s.From+b)/\ZI (s.To+b) then some (.inl ((k:Int)+1,acc++[Zz b s])) else some (.inr (.ret ([],20))):=by
  intro k s acc hk hacc;have hlt:=(List.getElem?_eq_some_iff.1 hk).1;have hat:at? l (k:Int)=some s:=by rw [at?_nat hlt];rw [Y2 hlt] at hk;exact hk
  obtain ⟨f64,t64⟩:=h64 s (Y7 hk);unfold Z0h.s0;rw [ZK (show (k:Int)<l.length by omega),cond_true,hat]
  simp only [Y0];rw [Z8l f64 hb,Z8l t64 hb,Z7A,Z7A];have hk1:w64 ((k:Int)+1)=k+1:=Z3 (by omega)
  have happ:∀ x:Span,app? 16 acc [x]=some (acc++[x]):=λx=>app?_ok (by
   have:=Z1i;have:=Z2z;unfold Len at hl;simp;omega)
  rcases fit_or (s.From+b) with ⟨q1,q2⟩|⟨q1,q2⟩<;>rcases fit_or (s.To+b) with ⟨q3,q4⟩|⟨q3,q4⟩<;>rw [q2,q4]
  ·by_cases h:ZI (s.From+b)/\ZI (s.To+b)
   ·rw [if_pos h,ZK h.1,ZK h.2];simp [happ,hk1,Zz]
   ·rw [if_neg h];have:(!decide (ZI (s.From+b)) || !decide (ZI (s.To+b)))=true:=by
     by_cases h1:ZI (s.From+b)
     ·rw [ZH (λh2=>h ⟨h1,h2⟩)];simp
     ·rw [ZH h1];simp
    simp only [bne_self_eq_false,Y0D,Bool.or_assoc] at this ⊢;rw [this];rfl
  ·rw [if_neg (λh=>q3 (Z41 h.2))];rfl
  ·rw [if_neg (λh=>q1 (Z41 h.1))];rfl
  ·rw [if_neg (λh=>q1 (Z41 h.1))];rfl
 have hend:∀ acc,Z0h.s0 l b ((l.length:Int),acc)=some (.inr (.go acc)):=λacc=>by unfold Z0h.s0;rw [ZH (by omega)];rfl
 unfold Z0h
 by_cases hall:∀ s∈l,ZI (s.From+b)/\ZI (s.To+b)
 ·refine .inl ⟨hall,?_⟩;have:loopO (Z0h.s0 l b) (0,[])=some (.go (l.map (Zz b))):=by
   refine Z0B (I:=λ(s:Int×List Span) r=>r = .go (l.map (Zz b))/\∃ k:Nat,k<=l.length/\s=((k:Int),(l.take k).map (Zz b))) (λs=>l.length-s.1.toNat) ?_ ⟨rfl,0,YI _,by simp⟩
   rintro s r ⟨rfl,k,hk,rfl⟩
   by_cases hlt:k<l.length
   ·refine .inl ⟨_,by rw [step k l[k] _ (Y2 hlt) (by simp;omega),if_pos (hall _ (YE hlt))],⟨rfl,k+1,hlt,?_⟩,by simp;omega⟩
    rw [Y0g hlt,Ys];push_cast;rfl
   ·have:k=l.length:=by omega
    subst this;rw [Yl];exact .inr (hend _)
  rw [this];rfl
 ·refine .inr ⟨hall,?_⟩;obtain ⟨k0,s0,hk0,hb0,hg⟩:=ZBs (l:=l) (good:=λ_ s=>ZI (s.From+b)/\ZI (s.To+b)) (λh=>hall λs hs=>by
   obtain ⟨k,hk⟩:=YC hs;exact h k s hk)
  have hlt0:=(List.getElem?_eq_some_iff.1 hk0).1;have:loopO (Z0h.s0 l b) (0,[])=some (.ret ([],20)):=by
   refine Z0B (I:=λ(s:Int×List Span) r=>r = .ret ([],20)/\∃ k:Nat,k<=k0/\s.1=(k:Int)/\s.2.length=k) (λs=>l.length-s.1.toNat) ?_ ⟨rfl,0,YI _,rfl,rfl⟩;rintro ⟨i,acc⟩ r ⟨rfl,k,hk,h1,h2⟩;simp only at h1 h2;subst h1
   by_cases hlt:k<k0
   ·have hkl:k<l.length:=by omega
    exact .inl ⟨_,by rw [step k l[k] _ (Y2 hkl) h2,if_pos (hg k _ hlt (Y2 hkl))],⟨rfl,k+1,hlt,by push_cast;rfl,by simp;omega⟩,by simp;omega⟩
   ·have:k=k0:=by omega
    subst this;exact .inr (by rw [step k s0 _ hk0 h2,if_neg hb0])
  rw [this];rfl
theorem RightL.shift {l:List Span} {b:Int} (h:RightL l) (ht:∀ s∈l,ZI (s.From+b)/\ZI (s.To+b)):RightL (l.map (Zz b)):=by
 constructor
 ·intro k s hk;rw [YS,Y1] at hk;obtain ⟨s,hk,rfl⟩:=hk;have h1:=h.ok k s hk;have h2:=ht s (Y7 hk);exact ⟨h2.1,h2.2,by simp only [Zz];omega⟩
 ·intro k s t hk hk1;rw [YS,Y1] at hk hk1;obtain ⟨s,hk,rfl⟩:=hk;obtain ⟨t,hk1,rfl⟩:=hk1;have:=h.gap k s t hk hk1;simp only [Zz];omega
def Z4J (a b:List Span):Prop:=∀ x,a.getLast? = some x->∀ y,b.head? = some y->x.To<y.From
theorem Z6Z {a b:List Span} (ha:Len a):∃ r,Z1E a b=some r/\(r=true↔Z4J a b):=by
 unfold Z1E
 cases a with
 | nil=>exact ⟨true,by simp,by simp [Z4J]⟩
 | cons x a=>
  cases b with
  | nil=>exact ⟨true,by simp,by simp [Z4J]⟩
  | cons y b=>
   have hl:((x::a).length:Int)<9223372036854775807:=by have:=Z1i;unfold Len at ha;omega
   have e1:(((x::a).length:Int)==0||((y::b).length:Int)==0)=false:=by simp;omega
   have hlt:(x::a).length-1<(x::a).length:=by simp
   have e2:at? (x::a) (w64 (((x::a).length:Int)-1))=some (x::a)[(x::a).length-1]:=by
    rw [Z3 (by simp at hl ⊢;omega),show (((x::a).length:Int)-1)=(((x::a).length-1:Nat):Int) by simp,at?_nat hlt]
   have e3:at? (y::b) 0=some y:=rfl;rw [e1,cond_false,e2,e3];refine ⟨decide ((x::a)[(x::a).length-1].To<y.From),rfl,?_⟩;have hlast:(x::a).getLast? = some (x::a)[(x::a).length-1]:=by rw [Y0d,Y2 hlt]
   simp only [decide_eq_true_eq,Z4J,hlast,List.head?_cons,Y5];exact ⟨λh x' hx y' hy=>by rw [<- hx,<- hy];exact h,λh=>h _ rfl _ rfl⟩
theorem span_beq (x y:Span):((x.From==y.From)&&((x.To==y.To)&&true))=decide (x=y):=by
 obtain ⟨x1,x2⟩:=x
 obtain ⟨y1,y2⟩:=y
 by_cases h1:x1=y1<;>by_cases h2:x2=y2<;>simp [h1,h2]
theorem spans_Same_eq {a b:List Span} (ha:Len a):∃ r,Z4L a b=some r/\(r=true↔a=b):=by
 have hl:(a.length:Int)<9223372036854775807:=by have:=Z1i;unfold Len at ha;omega
 unfold Z4L Zb
 by_cases hlen:a.length=b.length
 ·have e1:((a.length:Int) != (b.length:Int))=false:=bne_f (by omega)
  rw [e1,cond_false];rcases Z2d (l:=a) (step:=Zb.s0 a b) (λk x=>b[k]? = some x) (no:=.ret false) (yes:=.go ()) (λk x hk hp=>by
   have hlt:=(List.getElem?_eq_some_iff.1 hk).1;have hat:at? a (k:Int)=some x:=by rw [at?_nat hlt];rw [Y2 hlt] at hk;exact hk
   have hbt:at? b (k:Int)=some (b[k]'(by omega)):=at?_nat (by omega)
   unfold Zb.s0;rw [ZK (show (k:Int)<a.length by omega),cond_true,hat,hbt,Z3 (show _ by omega)]
   simp only [Y0,span_beq];rw [Y2 (show k<b.length by omega)]
   by_cases h:x=b[k]'(by omega)
   ·rw [ZK h];exact .inl ⟨rfl,congrArg some h.symm⟩
   ·rw [ZH h];exact .inr ⟨rfl,λe=>h (Option.some.inj e).symm⟩) (by
   unfold Zb.s0;rw [ZH (by omega)];rfl) with ⟨h1,h2⟩|⟨h1,h2⟩
  ·rw [h1];refine ⟨true,rfl,⟨λ_=>List.ext_getElem? λk=>?_,λ_=>rfl⟩⟩
   by_cases hk:k<a.length
   ·rw [Y2 hk];exact (h2 k _ (Y2 hk)).symm
   ·rw [YZ (by omega),YZ (by omega)]
  ·rw [h1];refine ⟨false,rfl,by simp only [Y6,false_iff];rintro rfl;exact h2 λk x hk=>hk⟩
 ·have e1:((a.length:Int) != (b.length:Int))=true:=bne_t (by omega)
  rw [e1,cond_true];exact ⟨false,rfl,by simp only [Y6,false_iff];rintro rfl;exact hlen rfl⟩
end Go.Dn

namespace Go.Dn
open Go
theorem ZDk (x y:Int):Z2X x y=if x<y then -1 else if y<x then 1 else 0:=by
 unfold Z2X Z3U
 simp only [bne_self_eq_false,cond_false,pickB,decide_eq_true_eq,gt_iff_lt,Y6,if_false]
def Inc (l:List Granule):Prop:=∀ (j k:Nat) (a b:Granule),j<k->l[j]? = some a->l[k]? = some b->a.Index<b.Index
theorem ZDW {l:List Granule} {t:Int} (hl:l.length*32<=reachBytes) (hs:Inc l):∃ p:Nat,p<=l.length/\(∀ (k:Nat) (g:Granule),l[k]? = some g->(k<p↔g.Index<t)) /\
  Z2 l t (λz0 z1=>some (Z4R z0 z1))=some ((p:Int),decide (∃ g,l[p]? = some g/\g.Index=t)):=by
 have hlen:(l.length:Int)<4398046511104*4:=by have:=Z1i;omega
 have hcmp:∀ g i,Z4R g i=if g.Index<i then -1 else if i<g.Index then 1 else 0:=λg i=>ZDk _ _
 obtain ⟨r,h1,p,rfl,hp,hlow,hhigh⟩:=Z0R (step:=Z2.s0 l t (λz0 z1=>some (Z4R z0 z1)))
  (I:=λs=>∃ i j:Nat,s=((i:Int),(j:Int))/\i<=j/\j<=l.length/\(∀ k g,l[k]? = some g->k<i->g.Index<t)/\(∀ k g,l[k]? = some g->j<=k->t<=g.Index))
  (λs=>(s.2-s.1).toNat)
  (λr=>∃ p:Nat,r=(p:Int)/\p<=l.length/\(∀ k g,l[k]? = some g->k<p->g.Index<t)/\(∀ k g,l[k]? = some g->p<=k->t<=g.Index)) (by
  rintro s ⟨i,j,rfl,hij,hj,hlow,hhigh⟩;unfold Z2.s0
  by_cases hlt:i<j
  ·have hm:w64 ((IntKind.u64.wrap (w64 ((i:Int)+j))).fdiv (2 ^ 1))=((i+j) / 2:Nat):=by
    rw [Z3 (x:=(i:Int)+j) (by omega),Z5U,Y0Z _ (by decide),Z3 (by omega)]
    omega
   have hml:(i+j) / 2<l.length:=by omega
   simp only [hm];rw [ZK (show (i:Int)<j by omega),cond_true,at?_nat hml]
   simp only [Y0,hcmp];refine .inl ?_;have hget:=Y2 hml
   by_cases hc:l[(i+j) / 2].Index<t
   ·rw [if_pos hc];refine ⟨((((i+j) / 2+1:Nat):Int),(j:Int)),?_,⟨(i+j) / 2+1,j,rfl,by omega,hj,λk g hk hki=>?_,hhigh⟩,by simp;omega⟩
    ·rw [Z3 (by omega)];simp
    ·rcases YL k ((i+j) / 2) with h|h
     ·have:=hs k _ g _ h hk hget;omega
     ·have:k=(i+j) / 2:=by omega
      subst this;rw [hget] at hk;cases hk;exact hc
   ·rw [if_neg hc];refine ⟨((i:Int),(((i+j) / 2:Nat):Int)),?_,⟨i,(i+j) / 2,rfl,by omega,by omega,hlow,λk g hk hki=>?_⟩,by simp;omega⟩
    ·split<;>simp
    ·rcases YL ((i+j) / 2) k with h|h
     ·have:=hs _ k _ g h hget hk;omega
     ·have:k=(i+j) / 2:=by omega
      subst this;rw [hget] at hk;cases hk;omega
  ·refine .inr ⟨(i:Int),by rw [ZH (show ¬ (i:Int)<j by omega)];rfl,i,rfl,by omega,hlow,λk g hk hki=>hhigh k g hk (by omega)⟩) (0,(l.length:Int)) ⟨0,l.length,rfl,YI _,YB _,λk g _ h=>by omega,λk g hk h=>by
    rw [YZ h] at hk;cases hk⟩
 refine ⟨p,hp,λk g hk=>⟨λh=>hlow k g hk h,λh=>?_⟩,?_⟩
 ·rcases YL k p with h2|h2
  ·exact h2
  ·have:=hhigh k g hk h2;omega
 ·unfold Z2;rw [h1];simp only [Y0]
  by_cases hlt:p<l.length
  ·rw [ZK (show (p:Int)<l.length by omega),cond_true,at?_nat hlt]
   simp only [Y0,hcmp,Y5,Y3,true_and];have:=hhigh p _ (Y2 hlt) (YB _);rw [Y2 hlt]
   by_cases he:l[p].Index=t
   ·rw [if_neg (by omega),if_neg (by omega)];simp [he]
   ·rw [if_neg (by omega),if_pos (by omega)];simp [he]
  ·rw [ZH (show ¬ (p:Int)<l.length by omega),cond_false]
   simp only [Y0,Y5,Y3,true_and];rw [YZ (by omega)]
   simp
structure Shape (f:Form):Prop where
 count:f.Count=f.Core.length
 zero:f.Count=0↔f.Period=0
 per:0<=f.Period/\f.Period<=1099511627776
 core:∀ l∈f.Core,RightL l
 odd:∀ g∈f.Odd,RightL g.Ticks/\ZI g.Index
 inc:Inc f.Odd
structure Lim (f:Form):Prop where
 core:f.Core.length*24<=reachBytes
 sets:∀ l∈f.Core,Len l/\Sp64 l
 odd:f.Odd.length*32<=reachBytes
 ticks:∀ g∈f.Odd,In64 g.Index/\Len g.Ticks/\Sp64 g.Ticks
 count:In64 f.Count
 period:In64 f.Period
theorem Form.lim {f:Form} (h:f.ok):Lim f:=by
 obtain ⟨h1,h2,h3,h4⟩:=h
 exact ⟨h3.1,λl hl=>okSpans (h3.2 l hl),h4.1,λg hg=>⟨(h4.2 g hg).1,okSpans (h4.2 g hg).2⟩,h2,h1⟩
theorem Z6t {f:Form} (hl:Lim f) (hs:Inc f.Odd) (i:Int):∃ p:Nat,p<=f.Odd.length/\(∀ (k:Nat) (g:Granule),f.Odd[k]? = some g->(k<p↔g.Index<i))/\Z5X f i=some ((p:Int),decide (∃ g,f.Odd[p]? = some g/\g.Index=i)):=by
 obtain ⟨p,h1,h2,h3⟩:=ZDW (t:=i) hl.odd hs
 exact ⟨p,h1,h2,by unfold Z5X;rw [h3];rfl⟩
def Zt (f:Form) (i:Int):Prop:=∃ g∈f.Odd,g.Index=i
def Z2R (f:Form) (i:Int):List Span:=f.Core.getD (i % f.Count).toNat []
def Z5Z (f:Form) (i:Int):Int:=i / f.Count*f.Period
open Classical in
noncomputable def Z9 (f:Form) (i:Int):List Span:=if h:Zt f i then h.choose.Ticks else if f.Count=0 then [] else (Z2R f i).map (Zz (Z5Z f i))
theorem Inc.uniq {l:List Granule} (h:Inc l) {a b:Granule} (ha:a∈l) (hb:b∈l) (he:a.Index=b.Index):a=b:=by
 obtain ⟨j,hj⟩:=YC ha
 obtain ⟨k,hk⟩:=YC hb
 rcases Nat.lt_trichotomy j k with hjk|rfl|hjk
 ·have:=h j k a b hjk hj hk;omega
 ·rw [hj] at hk;cases hk;rfl
 ·have:=h k j b a hjk hk hj;omega
theorem Z1T {f:Form} (hs:Inc f.Odd) {g:Granule} (hg:g∈f.Odd):Z9 f g.Index=g.Ticks:=by
 have h:Zt f g.Index:=⟨g,hg,rfl⟩
 unfold Z9
 rw [dif_pos h]
 rw [hs.uniq h.choose_spec.1 hg h.choose_spec.2]
theorem Z1e {f:Form} {i:Int} (h:¬ Zt f i) (h0:f.Count=0):Z9 f i=[]:=by unfold Z9;rw [dif_neg h,if_pos h0]
theorem Z3G {f:Form} {i:Int} (h:¬ Zt f i) (h0:f.Count≠0):Z9 f i=(Z2R f i).map (Zz (Z5Z f i)):=by unfold Z9;rw [dif_neg h,if_neg h0]
theorem ZAp {f:Form} (hs:Shape f) (h0:f.Count≠0):0<f.Count:=by have:=hs.count;omega
theorem Z1x {f:Form} (hs:Shape f) (h0:f.Count≠0) (i:Int):at? f.Core (i % f.Count)=some (Z2R f i)/\Z2R f i∈f.Core:=by
 have hp:=ZAp hs h0
 have h1:=Yt i h0
 have h2:=Y03 i hp
 have h3:(i % f.Count).toNat<f.Core.length:=by have:=hs.count;omega
 unfold Z2R
 rw [at?_lt h1 (by have:=hs.count;omega),YQ,Y2 h3]
 exact ⟨rfl,YE h3⟩
theorem Z9o {f:Form} (hl:Lim f) (hs:Shape f) {g:Granule} (hg:g∈f.Odd):Z3R f g.Index=some (g.Ticks,0,0):=by
 obtain ⟨p,h1,h2,h3⟩:=Z6t hl hs.inc g.Index
 obtain ⟨k,hk⟩:=YC hg
 have hkl:=(List.getElem?_eq_some_iff.1 hk).1
 have hpk:p<=k:=by
  rcases YL k p with h|h
  ·have:=(h2 k g hk).1 h;omega
  ·exact h
 have hpl:p<f.Odd.length:=by omega
 have hpg:=h2 p _ (Y2 hpl)
 have:p=k:=by
  rcases YL p k with h|h
  ·have:=hs.inc p k _ g h (Y2 hpl) hk;exact absurd (hpg.2 this) (Nat.lt_irrefl _)
  ·omega
 subst this
 unfold Z3R
 rw [h3]
 simp only [Y0]
 rw [ZK ⟨g,hk,rfl⟩,cond_true,at?_nat hpl]
 rw [Y2 hpl] at hk
 cases hk;rfl
theorem Z8k {f:Form} (hl:Lim f) (hs:Shape f) {i:Int} (hi:In64 i) (ho:¬ Zt f i):Z3R f i=if f.Count=0 then some ([],0,0) else some (Z2R f i,(fitS (Z5Z f i)).1,(fitS (Z5Z f i)).2):=by
 obtain ⟨p,h1,h2,h3⟩:=Z6t hl hs.inc i
 unfold Z3R
 rw [h3]
 simp only [Y0]
 rw [ZH (by rintro ⟨g,hg,he⟩;exact ho ⟨g,Y7 hg,he⟩),cond_false]
 by_cases h0:f.Count=0
 ·rw [Z9d h0,cond_true,if_pos h0]
 ·rw [Z5p h0,cond_false,if_neg h0,Z49 hi hl.count,Z6L (ZAp hs h0)];simp only [Y0];rw [(Z1x hs h0 i).1];simp only [Y0];have hq:In64 (i / f.Count):=by
   have hp:=ZAp hs h0;unfold In64 at hi ⊢
   constructor
   ·have : -9223372036854775808<=i / f.Count:=by
     rw [Int.le_ediv_iff_mul_le hp];have:(-9223372036854775808)*f.Count<=-9223372036854775808:=by
      have:(-9223372036854775808)*f.Count<=(-9223372036854775808)*1:=Int.mul_le_mul_of_nonpos_left (by omega) (by omega)
      omega
     omega
    exact this
   ·have:i / f.Count<=9223372036854775807:=by
     rcases Int.lt_or_le i 0 with h|h
     ·have:i / f.Count<0:=Y0x h hp;omega
     ·have:=Y0U f.Count h;omega
    exact this
  rw [safe_Mul_eq hq hl.period]
  rfl
def fits (f:Form) (i:Int):Prop:=∀ s∈Z9 f i,ZI s.From/\ZI s.To
theorem Z7r (l:List Span):l.map (Zz 0)=l:=by
 have:Zz 0=id:=by funext s;simp [Zz]
 rw [this,List.map_id]
theorem Z30 {f:Form} {i:Int} (ho:¬ Zt f i) (h0:f.Count≠0):Z9 f i=[]↔Z2R f i=[]:=by rw [Z3G ho h0,List.map_eq_nil_iff]
open Classical in
theorem Z8h {f:Form} (hl:Lim f) (hs:Shape f) {i:Int} (hi:In64 i):Z2b f i=some (if ZI i/\fits f i then (Z9 f i,0) else ([],20)):=by
 unfold Z2b
 rw [Z8A]
 by_cases ht:ZI i
 ·rw [ZK ht,YD,cond_false]
  by_cases ho:Zt f i
  ·obtain ⟨g,hg,rfl⟩:=ho;have hset:=Z1T hs.inc hg;have hr:=(hs.odd g hg).1;have hf:fits f g.Index:=by
    intro s hsm;rw [hset] at hsm;obtain ⟨k,hk⟩:=YC hsm;exact ⟨(hr.ok k s hk).1,(hr.ok k s hk).2.1⟩
   rw [Z9o hl hs hg,if_pos ⟨ht,hf⟩,hset];simp only [Y0]
   by_cases hn:g.Ticks=[]
   ·rw [hn];rfl
   ·have:((g.Ticks.length:Int)==0)=false:=Z5p (by have:=List.length_pos_iff.2 hn;omega)
    rw [this,cond_false];simp only [bne_self_eq_false,cond_false];rcases Z9e (b:=0) (hl.ticks g hg).2.1 hr.sp64 ⟨by decide,by decide⟩ with ⟨_,h2⟩|⟨h1,_⟩
    ·rw [h2,Z7r];rfl
    ·refine absurd (λs hsm=>?_) h1;rw [<- hset] at hsm
     simpa using hf s hsm
  ·rw [Z8k hl hs hi ho]
   by_cases h0:f.Count=0
   ·rw [if_pos h0,if_pos ⟨ht,by intro s hsm;rw [Z1e ho h0] at hsm;cases hsm⟩,Z1e ho h0];rfl
   ·rw [if_neg h0];simp only [Y0]
    by_cases hn:Z2R f i=[]
    ·rw [if_pos ⟨ht,by intro s hsm;rw [(Z30 ho h0).2 hn] at hsm;cases hsm⟩,(Z30 ho h0).2 hn,hn];rfl
    ·have:(((Z2R f i).length:Int)==0)=false:=Z5p (by have:=List.length_pos_iff.2 hn;omega)
     rw [this,cond_false];have hmem:=(Z1x hs h0 i).2;have hr:=hs.core _ hmem;have hfe:fits f i ↔ ∀ s∈Z2R f i,ZI (s.From+Z5Z f i)/\ZI (s.To+Z5Z f i):=by
      unfold fits;rw [Z3G ho h0]
      constructor
      ·intro h s hsm;exact h (Zz (Z5Z f i) s) (List.mem_map.2 ⟨s,hsm,rfl⟩)
      ·intro h s hsm;obtain ⟨s,hsm',rfl⟩:=List.mem_map.1 hsm;exact h s hsm'
     rcases fit_or (Z5Z f i) with ⟨q1,q2⟩|⟨q1,q2⟩<;>rw [q2]
     ·simp only [bne_self_eq_false,cond_false];rcases Z9e (b:=Z5Z f i) (hl.sets _ hmem).1 hr.sp64 q1 with ⟨h1,h2⟩|⟨h1,h2⟩
      ·rw [h2,if_pos ⟨ht,hfe.2 h1⟩,Z3G ho h0];rfl
      ·rw [h2,if_neg (λh=>h1 (hfe.1 h.2))];rfl
     ·rw [if_neg]
      ·rfl
      ·rintro ⟨_,h⟩;have h:=hfe.1 h;obtain ⟨s,hsm⟩:=List.exists_mem_of_ne_nil _ hn;have h1:=(h s hsm).1;obtain ⟨k,hk⟩:=YC hsm;have h2:=(hr.ok k s hk).1;unfold ZI at h1 h2;exact q1 (by unfold In64;omega)
 ·rw [ZH ht,if_neg (λh=>ht h.1)];rfl
open Classical in
theorem ZBE {f:Form} (hl:Lim f) (hs:Shape f) {i:Int} (hi:In64 i):Z5E f i=some (decide (Z9 f i≠[])):=by
 unfold Z5E
 by_cases ho:Zt f i
 ·obtain ⟨g,hg,rfl⟩:=ho;rw [Z9o hl hs hg,Z1T hs.inc hg];simp only [Y0];cases g.Ticks<;>simp
 ·rw [Z8k hl hs hi ho]
  by_cases h0:f.Count=0
  ·rw [if_pos h0,Z1e ho h0];rfl
  ·rw [if_neg h0];simp only [Y0,Ne,Z30 ho h0];cases Z2R f i<;>simp
end Go.Dn

namespace Go.Dn
open Go
theorem Z2u {α:Type} {l:List α} {b:Nat} (h:l.length*(b+1)<=reachBytes):(l.length:Int)<4611686018427387904:=by
 have:=Z1i
 have:l.length<=l.length*(b+1):=Nat.le_mul_of_pos_right _ (by omega)
 omega
theorem Z8Y {α:Type} {l:List α} {k:Nat} {x:α} (h:l[k]? = some x):at? l (k:Int)=some x/\(k:Int)<l.length:=by
 have hlt:=(List.getElem?_eq_some_iff.1 h).1
 rw [Y2 hlt] at h
 exact ⟨by rw [at?_nat hlt];exact h,by omega⟩
theorem shape_core {f:Form} (hl:Lim f):(loopO (Zq.s0 f) 0=some (.go ())/\∀ l∈f.Core,RightL l)\/(loopO (Zq.s0 f) 0=some (.ret false)/\¬ ∀ l∈f.Core,RightL l):=by
 have hlen:=Z2u (b:=23) hl.core
 rcases Z2d (l:=f.Core) (step:=Zq.s0 f) (λ_ x=>RightL x) (no:=.ret false) (yes:=.go ()) (λk x hk _=>by
   obtain ⟨h1,h2⟩:=Z8Y hk;obtain ⟨b,hb,hr⟩:=Z94 (hl.sets x (Y7 hk)).1 (hl.sets x (Y7 hk)).2;unfold Zq.s0;rw [ZK h2,cond_true,h1];simp only [Y0,hb,Z3 (show -9223372036854775808<=(k:Int)+1/\(k:Int)+1<=9223372036854775807 by omega)]
   cases b
   ·exact .inr ⟨rfl,λh=>by have:=hr.2 h;cases this⟩
   ·exact .inl ⟨rfl,hr.1 rfl⟩) (by unfold Zq.s0;rw [ZH (by omega)];rfl) with ⟨h1,h2⟩|⟨h1,h2⟩
 ·exact .inl ⟨h1,λl hm=>by obtain ⟨k,hk⟩:=YC hm;exact h2 k l hk⟩
 ·exact .inr ⟨h1,λh=>h2 λk x hk=>h x (Y7 hk)⟩
def goodOdd (f:Form) (k:Nat) (g:Granule):Prop:=RightL g.Ticks/\ZI g.Index/\∀ p,k≠0->f.Odd[k-1]? = some p->p.Index<g.Index
theorem shape_odd {f:Form} (hl:Lim f):(loopO (Zq.s1 f) 0=some (.go ())/\∀ k g,f.Odd[k]? = some g->goodOdd f k g)\/(loopO (Zq.s1 f) 0=some (.ret false)/\¬ ∀ k g,f.Odd[k]? = some g->goodOdd f k g):=by
 have hlen:=Z2u (b:=31) hl.odd
 refine Z2d (l:=f.Odd) (step:=Zq.s1 f) (goodOdd f) (no:=.ret false) (yes:=.go ()) (λk x hk _=>?_) (by unfold Zq.s1;rw [ZH (by omega)];rfl)
 obtain ⟨h1,h2⟩:=Z8Y hk
 have hx:=hl.ticks x (Y7 hk)
 obtain ⟨b,hb,hr⟩:=Z94 hx.2.1 hx.2.2
 unfold Zq.s1
 rw [ZK h2,cond_true,h1]
 simp only [Y0,hb,Z8A,Z3 (show -9223372036854775808<=(k:Int)+1/\(k:Int)+1<=9223372036854775807 by omega)]
 by_cases hbt:b=true/\ZI x.Index
 ·rw [hbt.1,ZK hbt.2];simp only [YD,Y14,cond_false]
  by_cases h0:k=0
  ·subst h0;exact .inl ⟨by simp,hr.1 hbt.1,hbt.2,λp h=>absurd rfl h⟩
  ·have hpl:k-1<f.Odd.length:=by omega
   rw [ZK (show (k:Int)>0 by omega),cond_true,Z3 (by omega),show (k:Int)-1=((k-1:Nat):Int) by omega,at?_nat hpl]
   simp only [Y0]
   by_cases hc:x.Index<=f.Odd[k-1].Index
   ·rw [ZK hc];refine .inr ⟨rfl,λh=>?_⟩;have:=h.2.2 _ h0 (Y2 hpl);omega
   ·rw [ZH hc];refine .inl ⟨rfl,hr.1 hbt.1,hbt.2,λp _ hp=>?_⟩;rw [Y2 hpl] at hp;cases hp;omega
 ·have:(!b || !decide (ZI x.Index))=true:=by
   cases b
   ·rfl
   ·rw [ZH (λh=>hbt ⟨rfl,h⟩)];rfl
  rw [this,cond_true];exact .inr ⟨rfl,λh=>hbt ⟨hr.2 h.1,h.2.1⟩⟩
theorem inc_of {f:Form} (h:∀ k g,f.Odd[k]? = some g->goodOdd f k g):Inc f.Odd:=by
 intro j k a b hjk ha hb
 induction k generalizing b with
 | zero=>omega
 | succ k ih=>
  have hkl:=(List.getElem?_eq_some_iff.1 hb).1;have h1:=(h (k+1) b hb).2.2 f.Odd[k] (by omega) (by simp [Y2 (show k<f.Odd.length by omega)])
  rcases YL j k with h2|h2
  ·have:=ih _ h2 (Y2 (show k<f.Odd.length by omega));omega
  ·have:j=k:=by omega
   subst this;rw [Y2 (show j<f.Odd.length by omega)] at ha;cases ha;exact h1
theorem gran_shape_eq {f:Form} (hl:Lim f):∃ b,Zq f=some b/\(b=true↔Shape f):=by
 unfold Zq
 by_cases h1:f.Count=f.Core.length/\(f.Count=0↔f.Period=0)/\0<=f.Period/\f.Period<=1099511627776
 ·have e:(f.Count != (f.Core.length:Int)||(f.Count==0) != (f.Period==0)||decide (f.Period<0)||decide (f.Period>1099511627776))=false:=by
   rw [bne_f h1.1,ZH (show ¬ f.Period<0 by omega),ZH (show ¬ f.Period>1099511627776 by omega)]
   simp only [Y0D,Y0X,bne_eq_false_iff_eq,ibeq,decide_eq_decide];exact h1.2.1
  rw [e,cond_false];rcases shape_core hl with ⟨h2,h3⟩|⟨h2,h3⟩
  ·rw [h2];simp only [Y0,Jx.elim];rcases shape_odd hl with ⟨h4,h5⟩|⟨h4,h5⟩
   ·rw [h4];exact ⟨true,rfl,λ_=>⟨h1.1,h1.2.1,h1.2.2,h3,λg hg=>by obtain ⟨k,hk⟩:=YC hg;exact ⟨(h5 k g hk).1,(h5 k g hk).2.1⟩,inc_of h5⟩,λ_=>rfl⟩
   ·rw [h4];refine ⟨false,rfl,λh=>(by cases h),λh=>absurd (λk g hk=>⟨(h.odd g (Y7 hk)).1,(h.odd g (Y7 hk)).2,λp h0 hp=>h.inc (k-1) k p g (by omega) hp hk⟩) h5⟩
  ·rw [h2];exact ⟨false,rfl,λh=>(by cases h),λh=>absurd h.core h3⟩
 ·have e:(f.Count != (f.Core.length:Int)||(f.Count==0) != (f.Period==0)||decide (f.Period<0)||decide (f.Period>1099511627776))=true:=by
   apply Classical.byContradiction;intro hn;simp only [Yk,Y0W,bne_eq_false_iff_eq,decide_eq_false_iff_not,ibeq,decide_eq_decide] at hn;exact h1 ⟨hn.1.1.1,hn.1.1.2,by omega,by omega⟩
  rw [e,cond_true];exact ⟨false,rfl,λh=>(by cases h),λh=>absurd ⟨h.count,h.zero,h.per⟩ h1⟩
def fstT (l:List Span):Int:=(l.head?.map Span.From).getD 0
def lstT (l:List Span):Int:=(l.getLast?.map Span.To).getD 0
theorem ZCz {a b:List Span} (ha:a≠[]) (hb:b≠[]):Z4J a b↔lstT a<fstT b:=by
 unfold Z4J lstT fstT
 rw [Y00 ha,Y07 hb]
 simp
theorem RightL.tail {s:Span} {l:List Span} (h:RightL (s::l)):RightL l :=
 ⟨λk x hk=>h.ok (k+1) x hk,λk x y hx hy=>h.gap (k+1) x y hx hy⟩
theorem Z1c {l:List Span} (h:RightL l) (hn:l≠[]):fstT l<=lstT l:=by
 induction l with
 | nil=>exact absurd rfl hn
 | cons s l ih=>
  have h0:=h.ok 0 s rfl
  cases l with
  | nil=>simp [fstT,lstT];exact h0.2.2
  | cons t l=>
   have h1:=h.gap 0 s t rfl rfl;have h2:=ih h.tail (by simp)
   have e1:lstT (s::t::l)=lstT (t::l):=by simp [lstT]
   have e2:fstT (t::l)=t.From:=rfl;have e3:fstT (s::t::l)=s.From:=rfl;rw [e1,e3];rw [e2] at h2;omega
theorem Z46 {l:List Span} (h:RightL l) (hn:l≠[]):ZI (lstT l)/\ZI (fstT l):=by
 have h1:l.getLast? = some (l.getLast hn):=Y00 hn
 have h2:l.head? = some (l.head hn):=Y07 hn
 obtain ⟨j,hj⟩:=YC (List.getLast_mem hn)
 obtain ⟨k,hk⟩:=YC (List.head_mem hn)
 unfold lstT fstT
 rw [h1,h2]
 exact ⟨(h.ok j _ hj).2.1,(h.ok k _ hk).1⟩
def full (f:Form):List (List Span):=f.Core.filter (λl=>decide (l.length>0))
def Turns (f:Form):Prop:=(∀ (k:Nat) (a b:List Span),(full f)[k]? = some a->(full f)[k+1]? = some b->lstT a<fstT b)/\∀ a b,(full f).getLast? = some a->(full f).head? = some b->lstT a<fstT b+f.Period
theorem full_loop {f:Form} (hl:Lim f):loopO (Z0S.s0 f) (0,[])=some (full f):=by
 have hlen:=Z2u (b:=23) hl.core
 refine Z0B (I:=λs r=>r=full f/\∃ k:Nat,k<=f.Core.length/\s=((k:Int),(f.Core.take k).filter (λl=>decide (l.length>0)))) (λs=>f.Core.length-s.1.toNat) ?_ ⟨rfl,0,YI _,by simp⟩
 rintro s r ⟨rfl,k,hk,rfl⟩
 unfold Z0S.s0
 by_cases hlt:k<f.Core.length
 ·have htake:f.Core.take (k+1)=f.Core.take k++[f.Core[k]]:=Y0g hlt;simp only;rw [ZK (show (k:Int)<f.Core.length by omega),cond_true,at?_nat hlt,Z3 (by omega)]
  simp only [Y0];refine .inl ?_;have hfl:((f.Core.take k).filter (λl=>decide (l.length>0))).length<=k:=Ya (Y0c _ _) (by rw [YN];exact Nat.min_le_left _ _)
  by_cases hc:f.Core[k].length>0
  ·rw [ZK (show ((f.Core[k].length:Int)>0) by omega),cond_true,app?_ok (by have h1:=hl.core;rw [Z1i] at h1;rw [Z2z];simp only [Y05];omega)]
   exact ⟨_,rfl,⟨trivial,k+1,hlt,by rw [htake,List.filter_append];simp [hc]⟩,by simp;omega⟩
  ·rw [ZH (show ¬ ((f.Core[k].length:Int)>0) by omega),cond_false]
   exact ⟨_,rfl,⟨trivial,k+1,hlt,by rw [htake,List.filter_append];simp [hc]⟩,by simp;omega⟩
 ·have:k=f.Core.length:=by omega
  subst this;simp only;rw [ZH (show ¬ ((f.Core.length:Int)<f.Core.length) by omega),cond_false,Yl]
  exact .inr rfl
theorem gran_turns_eq {f:Form} (hl:Lim f) (hs:Shape f):∃ b,Z0S f=some b/\(b=true↔Turns f):=by
 have hlen:=Z2u (b:=23) hl.core
 have hfl:(full f).length<=f.Core.length:=Y0c _ _
 have hmem:∀ x∈full f,x∈f.Core/\x≠[]:=λx hx=>by
  have:=List.mem_filter.1 hx;exact ⟨this.1,by rintro rfl;simp at this⟩
 unfold Z0S
 rw [full_loop hl]
 simp only [Y0]
 rcases Z2d (l:=full f) (step:=Z0S.s1 f (full f)) (λk a=>∀ b,(full f)[(k+1) % (full f).length]? = some b->lstT a<fstT b+(if k+1=(full f).length then f.Period else 0)) (no:=.ret false) (yes:=.go ()) (λk a hk _=>by
   obtain ⟨h1,h2⟩:=Z8Y hk;have hkl:k<(full f).length:=by omega
   have hmod:(k+1) % (full f).length<(full f).length:=Nat.mod_lt _ (by omega)
   have hnext:at? (full f) ((((k+1) % (full f).length:Nat):Int))=some (full f)[(k+1) % (full f).length]:=at?_nat hmod;obtain ⟨ha1,ha2⟩:=hmem a (Y7 hk);obtain ⟨hb1,hb2⟩:=hmem _ (YE hmod);have hra:=hs.core a ha1;have hrb:=hs.core _ hb1;have hal:a.length-1<a.length:=by have:=List.length_pos_iff.2 ha2;omega
   have hlast:at? a (w64 ((a.length:Int)-1))=some a[a.length-1]:=by
    have:=Z2u (b:=15) (hl.sets a ha1).1;rw [Z3 (by omega),show (a.length:Int)-1=((a.length-1:Nat):Int) by omega,at?_nat hal]
   have hlt:lstT a=a[a.length-1].To:=by unfold lstT;rw [Y0d,Y2 hal];rfl
   unfold Z0S.s1;rw [ZK h2,cond_true,h1,nz?_ok (by omega),Z3 (x:=(k:Int)+1) (by omega)]
   have htm:((k:Int)+1).tmod ((full f).length:Int)=(((k+1) % (full f).length:Nat):Int):=by
    rw [Int.tmod_eq_emod_of_nonneg (by omega)];push_cast;rfl
   simp only [Y0,htm,hnext,hlast];rw [Y2 hmod];generalize (full f)[(k+1) % (full f).length]=b at *
   have hb0:at? b 0=some (b.head hb2):=by
    cases b with
    | nil=>exact absurd rfl hb2
    | cons y b=>rfl
   have hbf:fstT b=(b.head hb2).From:=by unfold fstT;rw [Y07 hb2];rfl
   have htick:=(Z46 hrb hb2).2;unfold ZI at htick;have hper:=hs.per
   by_cases hl1:k+1=(full f).length
   ·have e:((k:Int)+1==((full f).length:Int))=true:=Z9d (by omega)
    rw [e,cond_true];simp only [Y0,hb0,<- hbf,Z3 (show -9223372036854775808<=fstT b+f.Period/\fstT b+f.Period<=9223372036854775807 by omega),<- hlt,if_pos hl1]
    by_cases hc:lstT a>=fstT b+f.Period
    ·rw [ZK hc];exact .inr ⟨rfl,λh=>by have:=h b rfl;omega⟩
    ·rw [ZH hc];exact .inl ⟨rfl,λb' hb'=>by cases hb';omega⟩
   ·have e:((k:Int)+1==((full f).length:Int))=false:=Z5p (by omega)
    rw [e,cond_false];simp only [Y0,hb0,<- hbf,Z3 (show -9223372036854775808<=fstT b+0/\fstT b+0<=9223372036854775807 by omega),<- hlt,if_neg hl1]
    by_cases hc:lstT a>=fstT b+0
    ·rw [ZK hc];exact .inr ⟨rfl,λh=>by have:=h b rfl;omega⟩
    ·rw [ZH hc];exact .inl ⟨rfl,λb' hb'=>by cases hb';omega⟩) (by unfold Z0S.s1;rw [ZH (by omega)];rfl) with ⟨h1,h2⟩|⟨h1,h2⟩
 ·rw [h1];refine ⟨true,rfl,λ_=>⟨λk a b ha hb=>?_,λa b ha hb=>?_⟩,λ_=>rfl⟩
  ·have hkl:=(List.getElem?_eq_some_iff.1 hb).1;have:=h2 k a ha b (by rw [Nat.mod_eq_of_lt hkl];exact hb)
   rw [if_neg (by omega)] at this;omega
  ·have hn:full f≠[]:=by rintro e;rw [e] at ha;simp at ha
   have hpos:=List.length_pos_iff.2 hn;rw [Y0d] at ha;have e1:(full f).length-1+1=(full f).length:=by omega
   have:=h2 _ a ha b (by rw [e1,Nat.mod_self,<- List.head?_eq_getElem?];exact hb)
   rw [if_pos e1] at this;exact this
 ·rw [h1];refine ⟨false,rfl,λh=>(by cases h),λh=>absurd (λk a hk b hb=>?_) h2⟩
  have hkl:=(List.getElem?_eq_some_iff.1 hk).1
  by_cases hl1:k+1=(full f).length
  ·rw [if_pos hl1];rw [hl1,Nat.mod_self,<- List.head?_eq_getElem?] at hb;exact h.2 a b (by rw [Y0d,<- hl1];exact hk) hb
  ·rw [if_neg hl1];rw [Nat.mod_eq_of_lt (by omega)] at hb
   have:=h.1 k a b hk hb;omega
end Go.Dn

namespace Go.Dn
open Go
theorem ZCg {l:List (List Span)} {p:List Span->Bool} (hl:l.length*24<=reachBytes):Ze l (λz=>some (p z))=some (decide (∃ x∈l,p x=true)):=by
 have hlen:=Z2u (b:=23) hl
 unfold Ze ZD
 by_cases hall:∀ (k:Nat) (x:List Span),l[k]? = some x->¬ p x=true
 ·have:loopO (ZD.s0 l (λz=>some (p z))) 0=some (.go ()):=by
   refine Z0B (I:=λ(s:Int) r=>r = .go ()/\∃ k:Nat,s=k/\k<=l.length) (λs=>l.length-s.toNat) ?_ ⟨rfl,0,rfl,YI _⟩;rintro s r ⟨rfl,k,rfl,hk⟩;unfold ZD.s0
   by_cases hlt:k<l.length
   ·rw [ZK (show (k:Int)<l.length by omega),cond_true,at?_nat hlt,Z3 (by omega)]
    have:=hall k _ (Y2 hlt);simp only [Y0,Yk] at this ⊢;rw [this];exact .inl ⟨_,rfl,⟨trivial,k+1,by push_cast;rfl,hlt⟩,by simp;omega⟩
   ·rw [ZH (show ¬ (k:Int)<l.length by omega)];exact .inr rfl
  rw [this,ZH (by rintro ⟨x,hx,hp⟩;obtain ⟨k,hk⟩:=YC hx;exact hall k x hk hp)]
  rfl
 ·obtain ⟨k0,x0,hx0,hb0,hg⟩:=ZBs (good:=λ_ x=>¬ p x=true) hall;have hb0:p x0=true:=Classical.byContradiction hb0;have hlt0:=(List.getElem?_eq_some_iff.1 hx0).1;have:loopO (ZD.s0 l (λz=>some (p z))) 0=some (.ret (k0:Int)):=by
   refine Z0B (I:=λ(s:Int) r=>r = .ret (k0:Int)/\∃ k:Nat,s=k/\k<=k0) (λs=>l.length-s.toNat) ?_ ⟨rfl,0,rfl,YI _⟩;rintro s r ⟨rfl,k,rfl,hk⟩;unfold ZD.s0;have hkl:k<l.length:=by omega
   rw [ZK (show (k:Int)<l.length by omega),cond_true,at?_nat hkl,Z3 (by omega)]
   by_cases hlt:k<k0
   ·have:=hg k _ hlt (Y2 hkl);simp only [Y0,Yk] at this ⊢;rw [this];exact .inl ⟨_,rfl,⟨trivial,k+1,by push_cast;rfl,hlt⟩,by simp;omega⟩
   ·have:k=k0:=by omega
    subst this;rw [Y2 hkl] at hx0;cases hx0;simp only [Y0,hb0];exact .inr rfl
  rw [this,ZK ⟨x0,Y7 hx0,hb0⟩];simp only [Y0,Jx.elim];rw [ZK (by omega)]
def Bare (f:Form):Prop:=∀ l∈f.Core,l=[]
theorem Z86 {f:Form} (hl:Lim f):∃ b,Z3v f=some b/\(b=true↔Bare f):=by
 unfold Z3v
 rw [ZCg hl.core]
 refine ⟨_,rfl,?_⟩
 simp only [Z5S,YP,decide_eq_false_iff_not,decide_eq_true_eq]
 constructor
 ·intro h l hm;apply Classical.byContradiction;intro hn;exact h ⟨l,hm,by have:=List.length_pos_iff.2 hn;omega⟩
 ·rintro h ⟨l,hm,hp⟩;rw [h l hm] at hp;simp at hp
theorem Z8C {f:Form} (hs:Shape f) (hb:Bare f) {i:Int} (ho:¬ Zt f i):Z9 f i=[]:=by
 by_cases h0:f.Count=0
 ·exact Z1e ho h0
 ·exact (Z30 ho h0).2 (hb _ (Z1x hs h0 i).2)
def UpTo (f:Form) (i:Int) (r:Int×Bool):Prop:=(r.2=true/\i<=r.1/\ZI r.1/\Z9 f r.1≠[]/\∀ k,i<=k->k<r.1->Z9 f k=[])\/(r.2=false/\r.1=0/\∀ k,i<=k->ZI k->Z9 f k=[])
def DownTo (f:Form) (i:Int) (r:Int×Bool):Prop:=(r.2=true/\r.1<=i/\ZI r.1/\Z9 f r.1≠[]/\∀ k,k<=i->r.1<k->Z9 f k=[])\/(r.2=false/\r.1=0/\∀ k,k<=i->ZI k->Z9 f k=[])
theorem odd_split {f:Form} (hs:Shape f) {p:Nat} {i:Int} (hp:∀ (k:Nat) (g:Granule),f.Odd[k]? = some g->(k<p↔g.Index<i)) {j:Int} (hj:Zt f j):∃ (k:Nat) (g:Granule),f.Odd[k]? = some g/\g.Index=j/\(k<p↔j<i):=by
 obtain ⟨g,hg,rfl⟩:=hj
 obtain ⟨k,hk⟩:=YC hg
 exact ⟨k,g,hk,rfl,hp k g hk⟩
theorem gran_step_up {f:Form} (hl:Lim f) (hs:Shape f) {i:Int} (hi : -1099511627776<=i/\i<=1099511627776):∃ r,Z0A f i 1=some r/\UpTo f i r:=by
 have hi64:In64 i:=by unfold In64;omega
 obtain ⟨b,hb,hbb⟩:=Z86 hl
 have holen:=Z2u (b:=31) hl.odd
 unfold Z0A
 rw [hb]
 simp only [Y0]
 cases b with
 | true=>
  have hbare:=hbb.1 rfl;rw [cond_true];obtain ⟨p,h1,h2,h3⟩:=Z6t hl hs.inc i;rw [h3];simp only [Y0,ZH (show ¬ (1:Int)<0 by omega),Y0j,cond_false]
  obtain ⟨r,hr,hpost⟩:=Z0R (step:=Z0A.s0 f 1) (I:=λ(s:Int)=>∃ k:Nat,s=k/\p<=k/\k<=f.Odd.length/\∀ (j:Nat) (g:Granule),f.Odd[j]? = some g->p<=j->j<k->g.Ticks=[]) (λs=>f.Odd.length-s.toNat)
   (λr=>(∃ (k:Nat) (g:Granule),r = .ret (g.Index,true)/\f.Odd[k]? = some g/\p<=k/\g.Ticks≠[]/\∀ (j:Nat) (g':Granule),f.Odd[j]? = some g'->p<=j->j<k->g'.Ticks=[])\/(r = .go ()/\∀ (j:Nat) (g':Granule),f.Odd[j]? = some g'->p<=j->g'.Ticks=[])) (by
   rintro s ⟨k,rfl,hpk,hk,hn⟩;unfold Z0A.s0
   by_cases hlt:k<f.Odd.length
   ·rw [ZK (show (k:Int)>=0 by omega),ZK (show (k:Int)<f.Odd.length by omega),Y09,cond_true,at?_nat hlt,Z3 (by omega)]
    simp only [Y0];have hget:=Y2 hlt
    by_cases hc:f.Odd[k].Ticks=[]
    ·rw [hc];refine .inl ⟨(k:Int)+1,rfl,⟨k+1,by push_cast;rfl,by omega,hlt,λj g hj hpj hjk=>?_⟩,by simp;omega⟩
     rcases YL j k with h|h
     ·exact hn j g hj hpj h
     ·have:j=k:=by omega
      subst this;rw [hget] at hj;cases hj;exact hc
    ·rw [ZK (show ((f.Odd[k].Ticks.length:Int)>0) by have:=List.length_pos_iff.2 hc;omega),cond_true]
     exact .inr ⟨_,rfl,.inl ⟨k,_,rfl,hget,hpk,hc,hn⟩⟩
   ·rw [ZH (show ¬ (k:Int)<f.Odd.length by omega),Bool.and_false,cond_false]
    refine .inr ⟨_,rfl,.inr ⟨rfl,λj g hj hpj=>hn j g hj hpj ?_⟩⟩;have:=(List.getElem?_eq_some_iff.1 hj).1;omega) (p:Int) ⟨p,rfl,YB _,h1,λj g _ h h'=>by omega⟩
  rw [hr];simp only [Y0];rcases hpost with ⟨k,g,rfl,hk,hpk,hne,hn⟩|⟨rfl,hn⟩
  ·have hset:=Z1T hs.inc (Y7 hk);have hgi:¬ g.Index<i:=λh=>by have:=(h2 k g hk).2 h;omega
   refine ⟨_,rfl,.inl ⟨rfl,by simp only;omega,(hs.odd g (Y7 hk)).2,by simp only;rw [hset];exact hne,λj hij hjg=>?_⟩⟩
   simp only at hjg
   by_cases ho:Zt f j
   ·obtain ⟨k',g',hk',rfl,hiff⟩:=odd_split hs h2 ho;rw [Z1T hs.inc (Y7 hk')];refine hn k' g' hk' ?_ ?_
    ·rcases YL k' p with h|h
     ·have:=hiff.1 h;omega
     ·exact h
    ·rcases YL k' k with h|h
     ·exact h
     ·rcases YL k k' with h'|h'
      ·have:=hs.inc k k' g g' h' hk hk';omega
      ·have:k=k':=by omega
       subst this;rw [hk] at hk';cases hk';omega
   ·exact Z8C hs hbare ho
  ·refine ⟨_,rfl,.inr ⟨rfl,rfl,λj hij _=>?_⟩⟩
   by_cases ho:Zt f j
   ·obtain ⟨k',g',hk',rfl,hiff⟩:=odd_split hs h2 ho;rw [Z1T hs.inc (Y7 hk')];refine hn k' g' hk' ?_;rcases YL k' p with h|h
    ·have:=hiff.1 h;omega
    ·exact h
   ·exact Z8C hs hbare ho
 | false=>
  rw [cond_false];obtain ⟨r,hr,hpost⟩:=Z0R (step:=Z0A.s1 f 1) (I:=λ(s:Int)=>i<=s/\s<=1099511627777/\∀ k,i<=k->k<s->Z9 f k=[]) (λs=>(1099511627777-s).toNat)
   (λr=>(∃ j,r = .ret (j,true)/\i<=j/\ZI j/\Z9 f j≠[]/\∀ k,i<=k->k<j->Z9 f k=[])\/(r = .go ()/\∀ k,i<=k->ZI k->Z9 f k=[])) (by
   rintro s ⟨hs1,hs2,hn⟩;unfold Z0A.s1;rw [Z8A]
   by_cases ht:ZI s
   ·rw [ZK ht,cond_true,ZBE hl hs (Z41 ht),Z3 (by unfold ZI at ht;omega)]
    simp only [Y0]
    by_cases hc:Z9 f s=[]
    ·rw [hc];refine .inl ⟨s+1,by simp,⟨by omega,by unfold ZI at ht;omega,λk hk hks=>?_⟩,by unfold ZI at ht;omega⟩
     by_cases h:k=s
     ·rw [h];exact hc
     ·exact hn k hk (by omega)
    ·rw [ZK hc,cond_true];exact .inr ⟨_,rfl,.inl ⟨s,rfl,hs1,ht,hc,hn⟩⟩
   ·rw [ZH ht,cond_false];exact .inr ⟨_,rfl,.inr ⟨rfl,λk hk htk=>hn k hk (by unfold ZI at ht htk;omega)⟩⟩) i ⟨Yi _,by omega,λk h h'=>by omega⟩
  rw [hr];simp only [Y0];rcases hpost with ⟨j,rfl,h1,h2,h3,h4⟩|⟨rfl,hn⟩
  ·exact ⟨_,rfl,.inl ⟨rfl,h1,h2,h3,h4⟩⟩
  ·exact ⟨_,rfl,.inr ⟨rfl,rfl,hn⟩⟩
theorem ZDP {f:Form} (hl:Lim f) (hs:Shape f) {i:Int} (hi : -1099511627776<=i/\i<=1099511627776):∃ r,Z0A f i (-1)=some r/\DownTo f i r:=by
 have hi64:In64 i:=by unfold In64;omega
 obtain ⟨b,hb,hbb⟩:=Z86 hl
 have holen:=Z2u (b:=31) hl.odd
 unfold Z0A
 rw [hb]
 simp only [Y0]
 cases b with
 | true=>
  have hbare:=hbb.1 rfl;rw [cond_true];obtain ⟨p,h1,h2,h3⟩:=Z6t hl hs.inc i;rw [h3]
  -- the number of exceptions up to the index
  obtain ⟨q,hq1,hq2,hq3⟩ : ∃ q:Nat,q<=f.Odd.length/\(∀ (k:Nat) (g:Granule),f.Odd[k]? = some g->(k<q↔g.Index<=i))/\((bif (decide ((-1:Int)<0) && !decide (∃ g,f.Odd[p]? = some g/\g.Index=i)) then some (w64 ((p:Int)-1)) else some (p:Int)):Option Int)=some ((q:Int)-1):=by
   by_cases he:∃ g,f.Odd[p]? = some g/\g.Index=i
   ·obtain ⟨g,hg,hgi⟩:=he;have hpl:=(List.getElem?_eq_some_iff.1 hg).1;refine ⟨p+1,by omega,λk g' hk=>?_,by rw [ZK (p:=∃ g,f.Odd[p]? = some g/\g.Index=i) ⟨g,hg,hgi⟩];simp⟩
    have:=h2 k g' hk
    constructor
    ·intro h;rcases YL k p with h'|h'
     ·have:=this.1 h';omega
     ·have:k=p:=by omega
      subst this;rw [hg] at hk;cases hk;omega
    ·intro h;rcases YL p k with h'|h'
     ·have:=hs.inc p k g g' h' hg hk;omega
     ·omega
   ·refine ⟨p,h1,λk g' hk=>?_,by rw [ZH (p:=∃ g,f.Odd[p]? = some g/\g.Index=i) he,Z3 (by omega)];simp⟩
    have:=h2 k g' hk
    constructor
    ·intro h;have:=this.1 h;omega
    ·intro h
     by_cases hgi:g'.Index=i
     ·exfalso
      have hkp:¬ k<p:=λh'=>by have:=this.1 h';omega
      rcases YL p k with h'|h'
      ·have hpl:p<f.Odd.length:=by have:=(List.getElem?_eq_some_iff.1 hk).1;omega
       have h5:=hs.inc p k _ g' h' (Y2 hpl) hk;have h6:=(h2 p _ (Y2 hpl)).2 (by omega)
       omega
      ·have:k=p:=by omega
       subst this;exact he ⟨g',hk,hgi⟩
     ·exact this.2 (by omega)
  simp only [Y0];rw [hq3];simp only [Y0];obtain ⟨r,hr,hpost⟩:=Z0R (step:=Z0A.s0 f (-1)) (I:=λ(s:Int)=>∃ k:Nat,s=(k:Int)-1/\k<=q/\∀ (j:Nat) (g:Granule),f.Odd[j]? = some g->k<=j->j<q->g.Ticks=[]) (λs=>(s+1).toNat)
   (λr=>(∃ (k:Nat) (g:Granule),r = .ret (g.Index,true)/\f.Odd[k]? = some g/\k<q/\g.Ticks≠[]/\∀ (j:Nat) (g':Granule),f.Odd[j]? = some g'->k<j->j<q->g'.Ticks=[])\/(r = .go ()/\∀ (j:Nat) (g':Granule),f.Odd[j]? = some g'->j<q->g'.Ticks=[])) (by
   rintro s ⟨k,rfl,hk,hn⟩;unfold Z0A.s0
   by_cases h0:0<k
   ·have hlt:k-1<f.Odd.length:=by omega
    rw [ZK (show (k:Int)-1>=0 by omega),ZK (show (k:Int)-1<f.Odd.length by omega),Y09,cond_true,show (k:Int)-1=((k-1:Nat):Int) by omega,at?_nat hlt,Z3 (by omega)]
    simp only [Y0];have hget:=Y2 hlt
    by_cases hc:f.Odd[k-1].Ticks=[]
    ·rw [hc];refine .inl ⟨((k-1:Nat):Int) + -1,rfl,⟨k-1,by omega,by omega,λj g hj hpj hjk=>?_⟩,by simp;omega⟩
     rcases YL j k with h|h
     ·have:j=k-1:=by omega
      subst this;rw [hget] at hj;cases hj;exact hc
     ·exact hn j g hj h hjk
    ·rw [ZK (show ((f.Odd[k-1].Ticks.length:Int)>0) by have:=List.length_pos_iff.2 hc;omega),cond_true]
     exact .inr ⟨_,rfl,.inl ⟨k-1,_,rfl,hget,by omega,hc,λj g hj h1 h2=>hn j g hj (by omega) h2⟩⟩
   ·rw [ZH (show ¬ (k:Int)-1>=0 by omega),Y0j,cond_false]
    exact .inr ⟨_,rfl,.inr ⟨rfl,λj g hj hjq=>hn j g hj (by omega) hjq⟩⟩) ((q:Int)-1) ⟨q,rfl,YB _,λj g _ h h'=>by omega⟩
  rw [hr];simp only [Y0];rcases hpost with ⟨k,g,rfl,hk,hkq,hne,hn⟩|⟨rfl,hn⟩
  ·have hset:=Z1T hs.inc (Y7 hk);have hgi:=(hq2 k g hk).1 hkq;refine ⟨_,rfl,.inl ⟨rfl,hgi,(hs.odd g (Y7 hk)).2,by simp only;rw [hset];exact hne,λj hij hjg=>?_⟩⟩
   simp only at hjg
   by_cases ho:Zt f j
   ·obtain ⟨g',hg',rfl⟩:=ho;obtain ⟨k',hk'⟩:=YC hg';rw [Z1T hs.inc hg'];refine hn k' g' hk' ?_ ((hq2 k' g' hk').2 hij);rcases YL k k' with h|h
    ·exact h
    ·rcases YL k' k with h'|h'
     ·have:=hs.inc k' k g' g h' hk' hk;omega
     ·have:k=k':=by omega
      subst this;rw [hk] at hk';cases hk';omega
   ·exact Z8C hs hbare ho
  ·refine ⟨_,rfl,.inr ⟨rfl,rfl,λj hij _=>?_⟩⟩
   by_cases ho:Zt f j
   ·obtain ⟨g',hg',rfl⟩:=ho;obtain ⟨k',hk'⟩:=YC hg';rw [Z1T hs.inc hg'];exact hn k' g' hk' ((hq2 k' g' hk').2 hij)
   ·exact Z8C hs hbare ho
 | false=>
  rw [cond_false];obtain ⟨r,hr,hpost⟩:=Z0R (step:=Z0A.s1 f (-1)) (I:=λ(s:Int)=>s<=i/\-1099511627777<=s/\∀ k,k<=i->s<k->Z9 f k=[]) (λs=>(s+1099511627777).toNat)
   (λr=>(∃ j,r = .ret (j,true)/\j<=i/\ZI j/\Z9 f j≠[]/\∀ k,k<=i->j<k->Z9 f k=[])\/(r = .go ()/\∀ k,k<=i->ZI k->Z9 f k=[])) (by
   rintro s ⟨hs1,hs2,hn⟩;unfold Z0A.s1;rw [Z8A]
   by_cases ht:ZI s
   ·rw [ZK ht,cond_true,ZBE hl hs (Z41 ht),Z3 (by unfold ZI at ht;omega)]
    simp only [Y0]
    by_cases hc:Z9 f s=[]
    ·rw [hc];refine .inl ⟨s + -1,by simp,⟨by omega,by unfold ZI at ht;omega,λk hk hks=>?_⟩,by unfold ZI at ht;omega⟩
     by_cases h:k=s
     ·rw [h];exact hc
     ·exact hn k hk (by omega)
    ·rw [ZK hc,cond_true];exact .inr ⟨_,rfl,.inl ⟨s,rfl,hs1,ht,hc,hn⟩⟩
   ·rw [ZH ht,cond_false];exact .inr ⟨_,rfl,.inr ⟨rfl,λk hk htk=>hn k hk (by unfold ZI at ht htk;omega)⟩⟩) i ⟨Yi _,by omega,λk h h'=>by omega⟩
  rw [hr];simp only [Y0];rcases hpost with ⟨j,rfl,h1,h2,h3,h4⟩|⟨rfl,hn⟩
  ·exact ⟨_,rfl,.inl ⟨rfl,h1,h2,h3,h4⟩⟩
  ·exact ⟨_,rfl,.inr ⟨rfl,rfl,hn⟩⟩
def Above (f:Form) (i:Int) (r:Int×Bool):Prop:=(r.2=true/\i<r.1/\ZI r.1/\Z9 f r.1≠[]/\∀ k,i<k->k<r.1->ZI k->Z9 f k=[])\/(r.2=false/\r.1=0/\∀ k,i<k->ZI k->Z9 f k=[])
def Under (f:Form) (i:Int) (r:Int×Bool):Prop:=(r.2=true/\r.1<i/\ZI r.1/\Z9 f r.1≠[]/\∀ k,k<i->r.1<k->ZI k->Z9 f k=[])\/(r.2=false/\r.1=0/\∀ k,k<i->ZI k->Z9 f k=[])
theorem Z6G {f:Form} (hl:Lim f) (hs:Shape f) {i:Int} (hi:In64 i):∃ r,Z2B f i=some r/\Above f i r:=by
 unfold Z2B
 by_cases h:i>=1099511627776
 ·rw [ZK h,cond_true];exact ⟨_,rfl,.inr ⟨rfl,rfl,λk hk ht=>by unfold ZI at ht;omega⟩⟩
 ·rw [ZH h,cond_false,Z3 (by unfold In64 at hi;omega)]
  have hm:iMax (i+1) (-1099511627776)=max (i+1) (-1099511627776):=by unfold iMax;omega
  rw [hm];obtain ⟨r,h1,h2⟩:=gran_step_up hl hs (i:=max (i+1) (-1099511627776)) (by omega)
  rw [h1];refine ⟨r,rfl,?_⟩;rcases h2 with ⟨a,b,c,d,e⟩|⟨a,b,e⟩
  ·exact .inl ⟨a,by omega,c,d,λk hk hkr ht=>e k (by unfold ZI at ht;omega) hkr⟩
  ·exact .inr ⟨a,b,λk hk ht=>e k (by have:=ht;unfold ZI at this;omega) ht⟩
theorem Z6W {f:Form} (hl:Lim f) (hs:Shape f) {i:Int} (hi:In64 i):∃ r,Z3E f i=some r/\Under f i r:=by
 unfold Z3E
 by_cases h:i<=-1099511627776
 ·rw [ZK h,cond_true];exact ⟨_,rfl,.inr ⟨rfl,rfl,λk hk ht=>by unfold ZI at ht;omega⟩⟩
 ·rw [ZH h,cond_false,Z3 (by unfold In64 at hi;omega)]
  have hm:iMin (i-1) 1099511627776=min (i-1) 1099511627776:=by unfold iMin;omega
  rw [hm];obtain ⟨r,h1,h2⟩:=ZDP hl hs (i:=min (i-1) 1099511627776) (by omega)
  rw [h1];refine ⟨r,rfl,?_⟩;rcases h2 with ⟨a,b,c,d,e⟩|⟨a,b,e⟩
  ·exact .inl ⟨a,by omega,c,d,λk hk hkr ht=>e k (by unfold ZI at ht;omega) hkr⟩
  ·exact .inr ⟨a,b,λk hk ht=>e k (by have:=ht;unfold ZI at this;omega) ht⟩
end Go.Dn

namespace Go.Dn
open Go
def BesideR (f:Form) (i:Int) (lo hi:Int×Bool):Prop :=
 fits f i/\(lo.2=true->fits f lo.1/\Z4J (Z9 f lo.1) (Z9 f i))/\(hi.2=true->fits f hi.1/\Z4J (Z9 f i) (Z9 f hi.1))/\(lo.2=true->hi.2=true->Z4J (Z9 f lo.1) (Z9 f hi.1))
theorem aheadL_nil_l (b:List Span):Z4J [] b:=by intro x hx;cases hx
theorem aheadL_nil_r (a:List Span):Z4J a []:=by intro x _ y hy;cases hy
theorem Z7Z {f:Form} (hl:Lim f) (hs:Shape f) (i:Int):Len (Z9 f i):=by
 by_cases ho:Zt f i
 ·obtain ⟨g,hg,rfl⟩:=ho;rw [Z1T hs.inc hg];exact (hl.ticks g hg).2.1
 ·by_cases h0:f.Count=0
  ·rw [Z1e ho h0];unfold Len;simp
  ·rw [Z3G ho h0];unfold Len;rw [YJ];exact (hl.sets _ (Z1x hs h0 i).2).1
theorem Z4W {f:Form} (hs:Shape f) {i:Int} (hf:fits f i):RightL (Z9 f i):=by
 by_cases ho:Zt f i
 ·obtain ⟨g,hg,rfl⟩:=ho;rw [Z1T hs.inc hg];exact (hs.odd g hg).1
 ·by_cases h0:f.Count=0
  ·rw [Z1e ho h0];exact ⟨by simp,by simp⟩
  ·unfold fits at hf;rw [Z3G ho h0] at hf ⊢;exact (hs.core _ (Z1x hs h0 i).2).shift λs hs'=>hf (Zz (Z5Z f i) s) (List.mem_map.2 ⟨s,hs',rfl⟩)
theorem near_l {c:Bool} {X S:List Span}:Z4J (if c=true then X else []) S↔(c=true->Z4J X S):=by
 cases c
 ·simp [aheadL_nil_l]
 ·simp
theorem near_r {c:Bool} {X S:List Span}:Z4J S (if c=true then X else [])↔(c=true->Z4J S X):=by
 cases c
 ·simp [aheadL_nil_r]
 ·simp
noncomputable def sideG (f:Form) (r:Int×Bool):Option (Jx (List Span) Bool) :=
 (bif r.2 then (Z2b f r.1).bind λx=>(bif (x.2 != 0) then some (.ret false) else some (.go x.1)) else some (.go []))
open Classical in
theorem sideG_eq {f:Form} (hl:Lim f) (hs:Shape f) {r:Int×Bool} (ht:r.2=true->ZI r.1):(r.2=true/\¬ fits f r.1/\sideG f r=some (.ret false))\/((r.2=true->fits f r.1)/\sideG f r=some (.go (if r.2=true then Z9 f r.1 else []))):=by
 obtain ⟨j,c⟩:=r
 unfold sideG
 cases c with
 | false=>exact .inr ⟨by simp,by simp⟩
 | true=>
  simp only [cond_true];rw [Z8h hl hs (Z41 (ht rfl))]
  by_cases hfl:fits f j
  ·rw [if_pos ⟨ht rfl,hfl⟩];exact .inr ⟨λ_=>hfl,by simp⟩
  ·rw [if_neg (λh=>hfl h.2)];exact .inl ⟨trivial,hfl,rfl⟩
open Classical in
theorem ZDN {f:Form} (hl:Lim f) (hs:Shape f) {i:Int} (hi:ZI i) {lo hi':Int×Bool} (hlo:Z3E f i=some lo) (hhi:Z2B f i=some hi') (tlo:lo.2=true->ZI lo.1) (thi:hi'.2=true->ZI hi'.1) :
  ∃ b,Z2h f i=some b/\(b=true↔BesideR f i lo hi'):=by
 have e:Z2h f i=(Z2b f i).bind λx1=>(bif (x1.2 != 0) then some false else (sideG f lo).bind λy1=>y1.elim (λr'=>some r') λa2=>(sideG f hi').bind λy2=>y2.elim (λr'=>some r') λa4=>
   (Z1E a2 x1.1).bind λx6=>((bif x6 then (Z1E x1.1 a4).bind λx7=>some x7 else some false)).bind λy3=>((bif y3 then (Z1E a2 a4).bind λx8=>some x8 else some false)).bind λy4=>some y4):=by
  unfold Z2h sideG;rw [hlo,hhi];simp only [Y0]
 rw [e,Z8h hl hs (Z41 hi)]
 clear e
 by_cases hf:fits f i
 ·rw [if_pos ⟨hi,hf⟩];simp only [Y0,bne_self_eq_false,cond_false];rcases sideG_eq hl hs tlo with ⟨h1,h2,h0⟩|⟨h1,h0⟩
  ·rw [h0];exact ⟨false,rfl,λh=>(by cases h),λh=>absurd (h.2.1 h1).1 h2⟩
  ·rw [h0];simp only [Y0,Jx.elim];rcases sideG_eq hl hs thi with ⟨h3,h4,h0'⟩|⟨h3,h0'⟩
   ·rw [h0'];exact ⟨false,rfl,λh=>(by cases h),λh=>absurd (h.2.2.1 h3).1 h4⟩
   ·rw [h0'];simp only [Y0];have lenA:Len (if lo.2=true then Z9 f lo.1 else []):=by
     by_cases hc:lo.2=true
     ·rw [if_pos hc];exact Z7Z hl hs _
     ·rw [if_neg hc];unfold Len;simp
    generalize hA:(if lo.2=true then Z9 f lo.1 else [])=A at lenA;generalize hB:(if hi'.2=true then Z9 f hi'.1 else [])=B;obtain ⟨r1,q1,p1⟩:=Z6Z (b:=Z9 f i) lenA;obtain ⟨r2,q2,p2⟩:=Z6Z (a:=Z9 f i) (b:=B) (Z7Z hl hs i);obtain ⟨r3,q3,p3⟩:=Z6Z (b:=B) lenA;rw [q1,q2,q3];subst hA hB;rw [near_l] at p1;rw [near_r] at p2;rw [near_l,near_r] at p3;refine ⟨r1&&r2&&r3,by cases r1<;>cases r2<;>rfl,?_⟩
    rw [Y8,Y8,p1,p2,p3]
    constructor
    ·rintro ⟨⟨a,b⟩,c⟩;exact ⟨hf,λh=>⟨h1 h,a h⟩,λh=>⟨h3 h,b h⟩,c⟩
    ·rintro ⟨_,a,b,c⟩;exact ⟨⟨λh=>(a h).2,λh=>(b h).2⟩,c⟩
 ·rw [if_neg (λh=>hf h.2)];exact ⟨false,rfl,λh=>(by cases h),λh=>absurd h.1 hf⟩
def Beside (f:Form) (i:Int):Prop:=∀ lo hi,Under f i lo->Above f i hi->BesideR f i lo hi
theorem Under.uniq {f:Form} {i:Int} {r r':Int×Bool} (h:Under f i r) (h':Under f i r'):r=r':=by
 obtain ⟨a,b⟩:=r
 obtain ⟨a',b'⟩:=r'
 rcases h with ⟨rfl,h1,h2,h3,h4⟩|⟨rfl,rfl,h4⟩<;>rcases h' with ⟨rfl,k1,k2,k3,k4⟩|⟨rfl,rfl,k4⟩
 ·simp only at *
  rcases Int.lt_trichotomy a a' with h|h|h
  ·exact absurd (h4 a' k1 h k2) k3
  ·rw [h]
  ·exact absurd (k4 a h1 h h2) h3
 ·exact absurd (k4 a h1 h2) h3
 ·exact absurd (h4 a' k1 k2) k3
 ·rfl
theorem Above.uniq {f:Form} {i:Int} {r r':Int×Bool} (h:Above f i r) (h':Above f i r'):r=r':=by
 obtain ⟨a,b⟩:=r
 obtain ⟨a',b'⟩:=r'
 rcases h with ⟨rfl,h1,h2,h3,h4⟩|⟨rfl,rfl,h4⟩<;>rcases h' with ⟨rfl,k1,k2,k3,k4⟩|⟨rfl,rfl,k4⟩
 ·simp only at *
  rcases Int.lt_trichotomy a a' with h|h|h
  ·exact absurd (k4 a h1 h h2) h3
  ·rw [h]
  ·exact absurd (h4 a' k1 h k2) k3
 ·exact absurd (k4 a h1 h2) h3
 ·exact absurd (h4 a' k1 k2) k3
 ·rfl
theorem ZCT {f:Form} (hl:Lim f) (hs:Shape f) {i:Int} (hi:ZI i):∃ b,Z2h f i=some b/\(b=true↔Beside f i):=by
 obtain ⟨lo,h1,h2⟩:=Z6W hl hs (Z41 hi)
 obtain ⟨hi',h3,h4⟩:=Z6G hl hs (Z41 hi)
 obtain ⟨b,h5,h6⟩:=ZDN hl hs hi h1 h3 (λh=>by rcases h2 with ⟨_,_,h,_⟩|⟨h',_⟩<;>simp_all) (λh=>by rcases h4 with ⟨_,_,h,_⟩|⟨h',_⟩<;>simp_all)
 refine ⟨b,h5,h6.trans ⟨λh lo' hi'' q1 q2=>?_,λh=>h lo hi' h2 h4⟩⟩
 rw [q1.uniq h2,q2.uniq h4];exact h
def sizeF (f:Form):Nat:=(f.Core.map List.length).sum+(f.Odd.map (·.Ticks.length)).sum
theorem sum_take {α:Type} (g:α->Nat) {l:List α} {k:Nat} (h:k<l.length):((l.take (k+1)).map g).sum=((l.take k).map g).sum+g l[k]:=by
 rw [Y0g h,Ys,List.sum_append];simp
theorem ZAY {f:Form} (hl:Lim f) (hc:f.Core.length<=6000) (ho:f.Odd.length<=6000):Z0a f=some (sizeF f:Int):=by
 have hr:=Z1i
 have lenC:∀ l∈f.Core,l.length<=8796093022207:=λl hm=>by have:=(hl.sets l hm).1;unfold Len at this;omega
 have lenO:∀ g∈f.Odd,g.Ticks.length<=8796093022207:=λl hm=>by have:=(hl.ticks l hm).2.1;unfold Len at this;omega
 obtain ⟨a,h1,h2,h3⟩:=fold_loop (l:=f.Core) (step:=Z0a.s0 f) (f:=λa _ x=>a+(x.length:Int)) (fin:=id) (a0:=(0:Int)) (λk a=>a=((((f.Core.take k).map List.length).sum:Nat):Int)/\a<=k*8796093022207) ⟨by simp,by simp⟩ (λk x a hk ⟨ha,hb⟩=>by
   obtain ⟨q1,q2⟩:=Z8Y hk;have hx:=lenC x (Y7 hk);have hkl:k<f.Core.length:=by omega
   have h0:0<=a:=by rw [ha];omega
   unfold Z0a.s0;simp only;rw [ZK q2,cond_true,q1,Z3 (x:=(k:Int)+1) (by omega)]
   simp only [Y0];rw [Z3 (x:=a+(x.length:Int)) (by omega)]
   refine ⟨rfl,?_,by push_cast;omega⟩
   rw [sum_take _ hkl];rw [Y2 hkl] at hk;cases hk;rw [ha];push_cast;rfl) (λa _=>by unfold Z0a.s0;simp only;rw [ZH (by omega)];rfl)
 rw [Yl] at h2
 obtain ⟨b,h4,h5,h6⟩:=fold_loop (l:=f.Odd) (step:=Z0a.s1 f) (f:=λa _ x=>a+(x.Ticks.length:Int)) (fin:=id) (a0:=a) (λk b=>b=a+((((f.Odd.take k).map (·.Ticks.length)).sum:Nat):Int)/\b<=a+k*8796093022207) ⟨by simp,by simp⟩ (λk x b hk ⟨ha,hb⟩=>by
   obtain ⟨q1,q2⟩:=Z8Y hk;have hx:=lenO x (Y7 hk);have hkl:k<f.Odd.length:=by omega
   have h0:0<=b:=by rw [ha,h2];omega
   unfold Z0a.s1;simp only;rw [ZK q2,cond_true,q1,Z3 (x:=(k:Int)+1) (by omega)]
   simp only [Y0];rw [Z3 (x:=b+(x.Ticks.length:Int)) (by omega)]
   refine ⟨rfl,?_,by push_cast;omega⟩
   rw [sum_take _ hkl];rw [Y2 hkl] at hk;cases hk;rw [ha];push_cast;omega) (λa _=>by unfold Z0a.s1;simp only;rw [ZH (by omega)];rfl)
 rw [Yl] at h5
 unfold Z0a
 rw [h1]
 simp only [Y0,id]
 rw [h4]
 simp only [Y0,id,h5,h2,sizeF]
 push_cast;rfl
structure RightF (f:Form):Prop where
 shape:Shape f
 turns:Turns f
 beside:∀ g∈f.Odd,Beside f g.Index
def LongF (f:Form):Prop:=6000<f.Core.length\/6000<f.Odd.length\/60000<sizeF f
theorem Z4C {f:Form} (hl:Lim f):(LongF f/\Z09 f=some 3)\/(¬ LongF f/\RightF f/\Z09 f=some 0)\/(¬ LongF f/\¬ RightF f/\Z09 f=some 50):=by
 have holen:=Z2u (b:=31) hl.odd
 unfold Z09
 by_cases h1:6000<f.Core.length\/6000<f.Odd.length
 ·have e:(decide ((f.Core.length:Int)>6000)||decide ((f.Odd.length:Int)>6000))=true:=by
   rcases h1 with h|h
   ·rw [ZK (show (f.Core.length:Int)>6000 by omega)];rfl
   ·rw [ZK (show (f.Odd.length:Int)>6000 by omega)];simp
  rw [e];exact .inl ⟨h1.elim .inl (λh=>.inr (.inl h)),rfl⟩
 ·have e:(decide ((f.Core.length:Int)>6000)||decide ((f.Odd.length:Int)>6000))=false:=by
   rw [ZH (show ¬ (f.Core.length:Int)>6000 by omega),ZH (show ¬ (f.Odd.length:Int)>6000 by omega)];rfl
  rw [e,cond_false,ZAY hl (by omega) (by omega)]
  simp only [Y0]
  by_cases h2:60000<sizeF f
  ·rw [ZK (show (sizeF f:Int)>60000 by omega)]
   exact .inl ⟨.inr (.inr h2),rfl⟩
  ·have hnl:¬ LongF f:=by unfold LongF;omega
   rw [ZH (show ¬ (sizeF f:Int)>60000 by omega),cond_false]
   obtain ⟨b,hb,hbs⟩:=gran_shape_eq hl
   rw [hb];simp only [Y0];refine .inr ?_;cases b with
   | false=>exact .inr ⟨hnl,λh=>(by have:=hbs.2 h.shape;cases this),rfl⟩
   | true=>
    have hs:=hbs.1 rfl;obtain ⟨c,hc,hct⟩:=gran_turns_eq hl hs
    rw [hc];simp only [Y0,YD,cond_false];cases c with
    | false=>exact .inr ⟨hnl,λh=>(by have:=hct.2 h.turns;cases this),rfl⟩
    | true=>
     simp only [YD,cond_false];rcases Z2d (l:=f.Odd) (step:=Z09.s0 f) (λ_ g=>Beside f g.Index) (no:=.ret 50) (yes:=.go ()) (λk g hk _=>by
       obtain ⟨q1,q2⟩:=Z8Y hk;obtain ⟨b,hb,hbb⟩:=ZCT hl hs (hs.odd g (Y7 hk)).2;unfold Z09.s0;rw [ZK q2,cond_true,q1,Z3 (by omega)]
       simp only [Y0,hb];cases b
       ·exact .inr ⟨rfl,λh=>by have:=hbb.2 h;cases this⟩
       ·exact .inl ⟨rfl,hbb.1 rfl⟩) (by unfold Z09.s0;rw [ZH (by omega)];rfl) with ⟨q1,q2⟩|⟨q1,q2⟩
     ·rw [q1];exact .inl ⟨hnl,⟨hs,hct.1 rfl,λg hg=>by obtain ⟨k,hk⟩:=YC hg;exact q2 k g hk⟩,rfl⟩
     ·rw [q1];exact .inr ⟨hnl,λh=>q2 λk g hk=>h.beside g (Y7 hk),rfl⟩
def SmallF (f:Form):Prop:=f.Core.length<=12/\f.Odd.length<=8/\sizeF f<=60
theorem Z9a {f:Form} (hl:Lim f):∃ b,Z32 f=some b/\(b=true↔SmallF f):=by
 unfold Z32
 by_cases h:f.Core.length<=12/\f.Odd.length<=8
 ·rw [ZK (show (f.Core.length:Int)<=12 by omega),ZK (show (f.Odd.length:Int)<=8 by omega),ZAY hl (by omega) (by omega)]
  refine ⟨decide ((sizeF f:Int)<=60),rfl,?_⟩;rw [decide_eq_true_iff];exact ⟨λh'=>⟨h.1,h.2,by omega⟩,λh'=>by have:=h'.2.2;omega⟩
 ·have e:(decide ((f.Core.length:Int)<=12)&&decide ((f.Odd.length:Int)<=8))=false:=by
   by_cases h1:f.Core.length<=12
   ·rw [ZH (show ¬ (f.Odd.length:Int)<=8 by omega)];simp
   ·rw [ZH (show ¬ (f.Core.length:Int)<=12 by omega)];rfl
  rw [e];exact ⟨false,rfl,λh=>(by cases h),λh'=>absurd ⟨h'.1,h'.2.1⟩ h⟩
end Go.Dn

namespace Go.Dn
open Go
theorem Z4D {f:Form} {l:List Span}:l∈full f↔l∈f.Core/\l≠[]:=by
 unfold full
 rw [List.mem_filter,decide_eq_true_iff,gt_iff_lt,List.length_pos_iff]
theorem full_pair {f:Form} (hs:Shape f) (ht:Turns f):(full f).Pairwise (λa b=>lstT a<fstT b):=by
 have hm:∀ x∈full f,fstT x<=lstT x:=λx hx=>Z1c (hs.core x (Z4D.1 hx).1) (Z4D.1 hx).2
 have h1:=ht.1
 generalize full f=l at hm h1
 induction l with
 | nil=>exact .nil
 | cons x l ih=>
  have ih:=ih (λy hy=>hm y (YY _ hy)) (λk a b ha hb=>h1 (k+1) a b ha hb);refine List.pairwise_cons.2 ⟨λy hy=>?_,ih⟩
  cases l with
  | nil=>cases hy
  | cons z l=>
   have hxz:=h1 0 x z rfl rfl;rcases List.mem_cons.1 hy with rfl|hy
   ·exact hxz
   ·have:=(List.pairwise_cons.1 ih).1 y hy;have:=hm z (by simp)
    omega
theorem core_pair {f:Form} (hs:Shape f) (ht:Turns f) {j k:Nat} {a b:List Span} (hjk:j<k) (ha:f.Core[j]? = some a) (hb:f.Core[k]? = some b) (na:a≠[]) (nb:b≠[]):lstT a<fstT b:=by
 have h:=full_pair hs ht
 unfold full at h
 rw [List.pairwise_filter] at h
 have hj:=(List.getElem?_eq_some_iff.1 ha)
 have hk:=(List.getElem?_eq_some_iff.1 hb)
 obtain ⟨hj,rfl⟩:=hj
 obtain ⟨hk,rfl⟩:=hk
 exact List.pairwise_iff_getElem.1 h j k hj hk hjk (by rw [decide_eq_true_iff];exact List.length_pos_iff.2 na) (by rw [decide_eq_true_iff];exact List.length_pos_iff.2 nb)
theorem core_turn {f:Form} (hs:Shape f) (ht:Turns f) {a b:List Span} (ha:a∈f.Core) (hb:b∈f.Core) (na:a≠[]) (nb:b≠[]):lstT a<fstT b+f.Period:=by
 have hA:=Z4D.2 ⟨ha,na⟩
 have hB:=Z4D.2 ⟨hb,nb⟩
 have hm:∀ x∈full f,fstT x<=lstT x:=λx hx=>Z1c (hs.core x (Z4D.1 hx).1) (Z4D.1 hx).2
 have hn:full f≠[]:=Y19 hA
 have hlast:=Y00 hn
 have hhead:=Y07 hn
 have h2:=ht.2 _ _ hlast hhead
 have hp:=full_pair hs ht
 have e1:lstT a<=lstT ((full f).getLast hn):=by
  obtain ⟨j,hj⟩:=YC hA;obtain ⟨hjl,hj⟩:=List.getElem?_eq_some_iff.1 hj
  by_cases hc:j=(full f).length-1
  ·subst hc;rw [Y0k,hj];exact Yi _
  ·have:=List.pairwise_iff_getElem.1 hp j ((full f).length-1) hjl (by omega) (by omega)
   rw [hj] at this;have h5:=hm _ (List.getLast_mem hn);rw [Y0k] at h5 ⊢;omega
 have e2:fstT ((full f).head hn)<=fstT b:=by
  obtain ⟨j,hj⟩:=YC hB;obtain ⟨hjl,hj⟩:=List.getElem?_eq_some_iff.1 hj;have hh:(full f).head hn=(full f)[0]'(by omega):=List.head_eq_getElem hn
  by_cases hc:j=0
  ·subst hc;rw [hh,hj];exact Yi _
  ·have:=List.pairwise_iff_getElem.1 hp 0 j (by omega) hjl (by omega)
   rw [hj,<- hh] at this;have h5:=hm _ (List.head_mem hn);omega
 omega
theorem ZCy {f:Form} (hs:Shape f) (h0:f.Count≠0) (i:Int):f.Core[(i % f.Count).toNat]? = some (Z2R f i):=by
 have:=(Z1x hs h0 i).1
 unfold at? at this
 rwa [if_pos (Yt i h0)] at this
theorem ZDM {f:Form} (hs:Shape f) (ht:Turns f) (h0:f.Count≠0) {i k:Int} (hik:i<k) (ni:Z2R f i≠[]) (nk:Z2R f k≠[]):lstT (Z2R f i)+Z5Z f i<fstT (Z2R f k)+Z5Z f k:=by
 have hp:=ZAp hs h0
 have di:=Y06 i f.Count
 have dk:=Y06 k f.Count
 have mi:=Yt i h0
 have mk:=Yt k h0
 have li:=Y03 i hp
 have lk:=Y03 k hp
 have hq:i / f.Count<=k / f.Count:=Int.ediv_le_ediv hp (by omega)
 unfold Z5Z
 rcases Int.lt_or_eq_of_le hq with h|h
 ·have h1:=core_turn hs ht (Z1x hs h0 i).2 (Z1x hs h0 k).2 ni nk;have h2:(i / f.Count+1)*f.Period<=k / f.Count*f.Period:=Ym (by omega) hs.per.1
  rw [Y1B,Int.one_mul] at h2;omega
 ·rw [h] at di ⊢;have:i % f.Count<k % f.Count:=by omega
  have h1:=core_pair hs ht (j:=(i % f.Count).toNat) (k:=(k % f.Count).toNat) (by omega) (ZCy hs h0 i) (ZCy hs h0 k) ni nk
  omega
theorem Z0Z {l:List Span} (d:Int) (hn:l≠[]):lstT (l.map (Zz d))=lstT l+d/\fstT (l.map (Zz d))=fstT l+d:=by
 unfold lstT fstT
 rw [List.getLast?_map,List.head?_map,Y00 hn,Y07 hn]
 exact ⟨rfl,rfl⟩
theorem under_some {f:Form} (hl:Lim f) (hs:Shape f) {i k:Int} (hk:In64 k) (hik:i<k) (ti:ZI i) (ni:Z9 f i≠[]):∃ j,Under f k (j,true)/\i<=j:=by
 obtain ⟨r,_,h⟩:=Z6W hl hs hk
 obtain ⟨j,b⟩:=r
 have h':=h
 rcases h with ⟨rfl,h1,h2,h3,h4⟩|⟨rfl,_,h4⟩
 ·refine ⟨j,h',?_⟩;apply Classical.byContradiction;intro hc;exact ni (h4 i hik (by simp only;omega) ti)
 ·exact absurd (h4 i hik ti) ni
theorem above_some {f:Form} (hl:Lim f) (hs:Shape f) {i k:Int} (hk:In64 k) (hik:k<i) (ti:ZI i) (ni:Z9 f i≠[]):∃ j,Above f k (j,true)/\j<=i:=by
 obtain ⟨r,_,h⟩:=Z6G hl hs hk
 obtain ⟨j,b⟩:=r
 have h':=h
 rcases h with ⟨rfl,h1,h2,h3,h4⟩|⟨rfl,_,h4⟩
 ·refine ⟨j,h',?_⟩;apply Classical.byContradiction;intro hc;exact ni (h4 i hik (by simp only;omega) ti)
 ·exact absurd (h4 i hik ti) ni
theorem RightF.order {f:Form} (hl:Lim f) (hr:RightF f):∀ (n:Nat) (i k:Int),(k-i).toNat=n->i<k->ZI i->ZI k->fits f i->fits f k->Z9 f i≠[]->Z9 f k≠[]->lstT (Z9 f i)<fstT (Z9 f k):=by
 have hs:=hr.shape
 intro n
 induction n using Nat.strongRecOn with
 | _ n ih=>
  intro i k hn hik ti tk fi fk ni nk
  by_cases ok:Zt f k
  ·obtain ⟨g,hg,rfl⟩:=ok;obtain ⟨j,hj,hij⟩:=under_some hl hs (Z41 tk) hik ti ni;obtain ⟨hi',_,hab⟩:=Z6G hl hs (Z41 tk);obtain ⟨_,hlo,_,_⟩:=hr.beside g hg _ _ hj hab;obtain ⟨fj,aj⟩:=hlo rfl;have hj2:=hj;rcases hj2 with ⟨_,j1,j2,j3,j4⟩|⟨h,_⟩
   ·simp only at fj aj j1 j2 j3;have hjk:=(ZCz j3 nk).1 aj
    by_cases hji:i=j
    ·rw [hji];exact hjk
    ·have h1:=ih (j-i).toNat (by omega) i j rfl (by omega) ti j2 fi fj ni j3
     have h2:=Z1c (Z4W hs fj) j3;omega
   ·cases h
  ·by_cases oi:Zt f i
   ·obtain ⟨g,hg,rfl⟩:=oi;obtain ⟨j,hj,hij⟩:=above_some hl hs (Z41 ti) hik tk nk;obtain ⟨lo',_,hun⟩:=Z6W hl hs (Z41 ti);obtain ⟨_,_,hhi,_⟩:=hr.beside g hg _ _ hun hj;obtain ⟨fj,aj⟩:=hhi rfl;have hj2:=hj;rcases hj2 with ⟨_,j1,j2,j3,j4⟩|⟨h,_⟩
    ·simp only at fj aj j1 j2 j3;have hjk:=(ZCz ni j3).1 aj
     by_cases hji:j=k
     ·rw [<- hji];exact hjk
     ·have h1:=ih (k-j).toNat (by omega) j k rfl (by omega) j2 tk fj fk j3 nk
      have h2:=Z1c (Z4W hs fj) j3;omega
    ·cases h
   ·have h0:f.Count≠0:=λh=>ni (Z1e oi h);have ni':=λh=>ni ((Z30 oi h0).2 h);have nk':=λh=>nk ((Z30 ok h0).2 h);rw [Z3G oi h0,Z3G ok h0,(Z0Z _ ni').1,(Z0Z _ nk').2];exact ZDM hs hr.turns h0 hik ni' nk'
theorem iMin_eq (a b:Int):iMin a b=min a b:=by unfold iMin;omega
theorem iMax_eq (a b:Int):iMax a b=max a b:=by unfold iMax;omega
end Go.Dn

namespace Go.Dn
open Go
theorem Above.tick {f:Form} {i:Int} {r:Int×Bool} (h:Above f i r) (hr:r.2=true):i<r.1/\ZI r.1/\Z9 f r.1≠[]/\∀ k,i<k->k<r.1->ZI k->Z9 f k=[]:=by
 rcases h with ⟨_,h1,h2,h3,h4⟩|⟨h,_⟩
 ·exact ⟨h1,h2,h3,h4⟩
 ·rw [hr] at h;cases h
theorem Under.tick {f:Form} {i:Int} {r:Int×Bool} (h:Under f i r) (hr:r.2=true):r.1<i/\ZI r.1/\Z9 f r.1≠[]/\∀ k,k<i->r.1<k->ZI k->Z9 f k=[]:=by
 rcases h with ⟨_,h1,h2,h3,h4⟩|⟨h,_⟩
 ·exact ⟨h1,h2,h3,h4⟩
 ·rw [hr] at h;cases h
end Go.Dn

namespace Go.Dn
open Go
theorem eqf_loop {α β:Type} {a:List α} {b:List β} {step:Int->Option (Int⊕Jx Unit Bool)} {eq:α->β->Option Bool} (P:α->β->Prop)
  (hl:(a.length:Int)<9223372036854775807) (hab:a.length=b.length)
  (heq:∀ (k:Nat) x y,a[k]? = some x->b[k]? = some y->∃ r,eq x y=some r/\(r=true↔P x y))
  (hstep:∀ s,step s=bif decide (s<(a.length:Int)) then (at? a s).bind λx1=>(at? b s).bind λx2=>(eq x1 x2).bind λx3=>bif (!x3) then some (.inr (.ret false)) else some (.inl (w64 (s+1))) else some (.inr (.go ()))) :
  (loopO step 0=some (.go ())/\∀ (k:Nat) x y,a[k]? = some x->b[k]? = some y->P x y)\/(loopO step 0=some (.ret false)/\¬ ∀ (k:Nat) x y,a[k]? = some x->b[k]? = some y->P x y):=by
 rcases Z2d (l:=a) (step:=step) (λk x=>∀ y,b[k]? = some y->P x y) (no:=.ret false) (yes:=.go ()) (λk x hk hp=>by
  have hlt:=(List.getElem?_eq_some_iff.1 hk).1;have hat:at? a (k:Int)=some x:=by rw [at?_nat hlt];rw [Y2 hlt] at hk;exact hk
  have hbt:at? b (k:Int)=some (b[k]'(by omega)):=at?_nat (by omega)
  have hbk:b[k]? = some (b[k]'(by omega)):=Y2 (by omega)
  obtain ⟨r,h1,h2⟩:=heq k x _ hk hbk;rw [hstep,ZK (show (k:Int)<a.length by omega),cond_true,hat,hbt,Z3 (show _ by omega)]
  simp only [Y0,h1];cases r with
  | true=>exact .inl ⟨rfl,λy hy=>by rw [hbk] at hy;cases hy;exact h2.1 rfl⟩
  | false=>exact .inr ⟨rfl,λh=>by have:=h2.2 (h _ hbk);cases this⟩) (by
  rw [hstep,ZH (by omega)];rfl) with ⟨h1,h2⟩|⟨h1,h2⟩
 ·exact .inl ⟨h1,λk x y hx hy=>h2 k x hx y hy⟩
 ·exact .inr ⟨h1,λh=>h2 λk x hx y hy=>h k x y hx hy⟩
theorem ZC1 {a b:List Span} {d:Int} (hl:a.length=b.length):(∀ (k:Nat) x y,a[k]? = some x->b[k]? = some y->y.From-x.From=d/\y.To-x.To=d)↔b=a.map (Zz d):=by
 constructor
 ·intro h;apply List.ext_getElem?;intro k
  by_cases hk:k<a.length
  ·have h1:a[k]? = some a[k]:=Y2 hk;have h2:b[k]? = some (b[k]'(by omega)):=Y2 (by omega)
   rw [h2,YS,h1];obtain ⟨q1,q2⟩:=h k _ _ h1 h2;simp only [YA,Zz,Y5];generalize b[k]'(by omega)=y at q1 q2 ⊢
   obtain ⟨y1,y2⟩:=y;simp only at q1 q2;simp only [Span.mk.injEq];omega
  ·rw [YZ (by omega),YZ (by simp;omega)]
 ·rintro rfl k x y hx hy;rw [YS,hx] at hy;simp only [YA,Y5] at hy;subst hy;simp only [Zz];omega
theorem ZBO {a b:List Span} {d:Int} (ha:RightL a) (hb:RightL b) (hl:Len a):∃ r,Z2o a b d=some r/\(r=true↔b=a.map (Zz d)):=by
 have hl':(a.length:Int)<9223372036854775807:=by have:=Z1i;unfold Len at hl;omega
 unfold Z2o ZA
 by_cases hlen:a.length=b.length
 ·rw [bne_f (by omega),cond_false]
  have tk:∀ {l:List Span},RightL l->∀ (k:Nat) s,l[k]? = some s->ZI s.From/\ZI s.To:=λ{l} h k s hs=>by
   have:=Z8N.1 h k s hs;unfold Z5b at this;exact ⟨this.1,this.2.1⟩
  rcases eqf_loop (a:=a) (b:=b) (step:=ZA.s0 a b (λz0 z1=>some (Z1u z0 z1 d))) (eq:=λz0 z1=>some (Z1u z0 z1 d)) (λx y=>y.From-x.From=d/\y.To-x.To=d) hl' hlen (λk x y hx hy=>by
   refine ⟨_,rfl,?_⟩;obtain ⟨x1,x2⟩:=tk ha k x hx;obtain ⟨y1,y2⟩:=tk hb k y hy;unfold ZI at x1 x2 y1 y2;unfold Z1u;rw [Z3 (by omega),Z3 (by omega)]
   simp) (λs=>rfl) with ⟨h1,h2⟩|⟨h1,h2⟩
  ·rw [h1];exact ⟨true,rfl,⟨λ_=>(ZC1 hlen).1 h2,λ_=>rfl⟩⟩
  ·rw [h1];refine ⟨false,rfl,by simp only [Y6,false_iff];exact λh=>h2 ((ZC1 hlen).2 h)⟩
 ·rw [bne_t (by omega),cond_true]
  refine ⟨false,rfl,by simp only [Y6,false_iff];rintro rfl;exact hlen (by simp)⟩
end Go.Dn

namespace Go.Dn
open Go
noncomputable def cs (f:Form) (i:Int):List Span:=(Z2R f i).map (Zz (Z5Z f i))
theorem Z2D (l:List Span) (a b:Int):(l.map (Zz a)).map (Zz b)=l.map (Zz (a+b)):=by
 rw [List.map_map]
 congr 1
 funext s
 simp only [Function.comp,Zz,Span.mk.injEq]
 omega
theorem shift_inj {a b:List Span} {d:Int} (h:a.map (Zz d)=b.map (Zz d)):a=b:=by
 have:=congrArg (List.map (Zz (-d))) h
 rw [Z2D,Z2D,Int.add_right_neg,Z7r,Z7r] at this
 exact this
theorem Z7a {f:Form} (h0:f.Count≠0) (i:Int):cs f (i+f.Count)=(cs f i).map (Zz f.Period):=by
 unfold cs Z2R Z5Z
 rw [Z2D,Int.add_emod_right,Int.add_ediv_of_dvd_right (Int.dvd_refl _),Int.ediv_self h0,Y1B,Int.one_mul]
theorem Z7p {f:Form} (h0:f.Count≠0) (i k:Int):cs f (i+f.Count*k)=(cs f i).map (Zz (k*f.Period)):=by
 unfold cs Z2R Z5Z
 rw [Z2D,Int.add_mul_emod_self_left,Int.add_mul_ediv_left _ _ h0,Y1B]
theorem Z43 {f:Form} {i:Int} (h0:0<=i) (h1:i<f.Count):cs f i=f.Core.getD i.toNat []:=by
 unfold cs Z2R Z5Z
 rw [Int.emod_eq_of_lt h0 h1,Int.ediv_eq_zero_of_lt h0 h1,Int.zero_mul,Z7r]
def TurnZ (f:Form) (d q:Int):Prop:=∀ i,cs f (i+d)=(cs f i).map (Zz q)
theorem turn_of {f:Form} (h0:0<f.Count) {d q:Int} (h:∀ i,0<=i->i<f.Count->cs f (i+d)=(cs f i).map (Zz q)):TurnZ f d q:=by
 intro i
 have e:i=i % f.Count+f.Count*(i / f.Count):=(Y06 i f.Count).symm
 have h1:=h (i % f.Count) (Yt i (by omega)) (Y03 i h0)
 have e2:i+d=(i % f.Count+d)+f.Count*(i / f.Count):=by omega
 rw [e2,Z7p (by omega),h1]
 conv=>rhs;rw [e,Z7p (by omega)]
 rw [Z2D,Z2D,Int.add_comm]
def Z7i (f:Form) (d k:Int):Int:=if k+d>=f.Count then k+d-f.Count else k+d
def Z8v (f:Form) (d k:Int):Int:=if k+d>=f.Count then f.Period else 0
theorem wrap_cs {f:Form} {d k:Int} (hd:1<=d) (hdn:d<=f.Count) (h0:0<=k) (h1:k<f.Count):0<=Z7i f d k/\Z7i f d k<f.Count/\cs f (k+d)=(cs f (Z7i f d k)).map (Zz (Z8v f d k)):=by
 unfold Z7i Z8v
 by_cases h:k+d>=f.Count
 ·rw [if_pos h,if_pos h];refine ⟨by omega,by omega,?_⟩
  rw [<- Z7a (by omega)]
  congr 1;omega
 ·rw [if_neg h,if_neg h,Z7r];exact ⟨by omega,by omega,rfl⟩
theorem canon_turn_eq {f:Form} (hl:Lim f) (hs:Shape f) {d q:Int} (hd:1<=d) (hdn:d<=f.Count) (hq:0<=q/\q<=1099511627776):∃ r,Z19 f d q=some r/\(r=true↔TurnZ f d q):=by
 have hcl:(f.Core.length:Int)<4611686018427387904:=Z2u (b:=23) hl.core
 have hcnt:=hs.count
 have key:∀ k:Int,0<=k->k<f.Count->(cs f (Z7i f d k)=(cs f k).map (Zz (q-Z8v f d k))↔cs f (k+d)=(cs f k).map (Zz q)):=λk k0 k1=>by
  obtain ⟨_,_,h⟩:=wrap_cs hd hdn k0 k1;rw [h]
  constructor
  ·intro e;rw [e,Z2D]
   congr 2;omega
  ·intro e;apply shift_inj (d:=Z8v f d k);rw [e,Z2D]
   congr 2;omega
 unfold Z19
 rcases Z2d (l:=f.Core) (step:=Z19.s0 f d q) (λk x=>cs f (Z7i f d k)=x.map (Zz (q-Z8v f d k))) (no:=.ret false) (yes:=.go ()) (λk x hk hp=>by
  have hlt:=(List.getElem?_eq_some_iff.1 hk).1;have hat:at? f.Core (k:Int)=some x:=by rw [at?_nat hlt];rw [Y2 hlt] at hk;exact hk
  obtain ⟨w0,w1,_⟩:=wrap_cs (f:=f) (k:=(k:Int)) hd hdn (by omega) (by omega)
  have hx:=hs.core x (Y7 hk);have hlx:=(hl.sets x (Y7 hk)).1;have hwl:(Z7i f d k).toNat<f.Core.length:=by omega
  have hgw:cs f (Z7i f d k)=f.Core[(Z7i f d k).toNat]:=by rw [Z43 w0 w1,YQ,Y2 hwl];rfl
  have hy:=hs.core _ (YE hwl);have hat2:at? f.Core (Z7i f d k)=some f.Core[(Z7i f d k).toNat]:=at?_lt w0 (by omega)
  have hpk:(bif decide (w64 ((k:Int)+d)>=f.Count) then some (w64 (w64 ((k:Int)+d)-f.Count),f.Period) else some (w64 ((k:Int)+d),0))=some (Z7i f d k,Z8v f d k):=by
   rw [Z3 (show _ by omega)]
   unfold Z7i Z8v
   by_cases h:(k:Int)+d>=f.Count
   ·rw [ZK h,cond_true,if_pos h,if_pos h,Z3 (show _ by omega)]
   ·rw [ZH h,cond_false,if_neg h,if_neg h]
  obtain ⟨r,h1,h2⟩:=ZBO (d:=q-Z8v f d k) hx hy hlx;have hwp:0<=Z8v f d k/\Z8v f d k<=1099511627776:=by have:=hs.per;unfold Z8v;split<;>omega
  unfold Z19.s0;rw [ZK (show (k:Int)<f.Core.length by omega),cond_true,hat]
  simp only [Y0,hpk,hat2];rw [Z3 (show _ by omega),h1]
  simp only [Y0];rw [hgw];cases r with
  | true=>exact .inl ⟨by simp only [YD,cond_false,Y0,Jx.elim];rw [Z3 (show _ by omega)],h2.1 rfl⟩
  | false=>exact .inr ⟨rfl,λh=>by have:=h2.2 h;cases this⟩) (by
  unfold Z19.s0;rw [ZH (by omega)];rfl) with ⟨h1,h2⟩|⟨h1,h2⟩
 ·rw [h1];refine ⟨true,rfl,⟨λ_=>turn_of (by omega) λi i0 i1=>?_,λ_=>rfl⟩⟩
  have hlt:i.toNat<f.Core.length:=by omega
  have:=h2 i.toNat _ (Y2 hlt);rw [Y15 i0] at this;refine (key i i0 i1).1 ?_;rw [this,Z43 i0 i1,YQ,Y2 hlt];rfl
 ·rw [h1];refine ⟨false,rfl,⟨(λh=>nomatch h),λht=>absurd (λk x hk=>?_) h2⟩⟩;have hlt:=(List.getElem?_eq_some_iff.1 hk).1;have:=(key k (by omega) (by omega)).2 (ht k)
  rw [this,Z43 (by omega) (by omega),YQ,YH,hk];rfl
end Go.Dn

namespace Go.Dn
open Go
structure Good (f:Form) (d:Int):Prop where
 pos:1<=d
 dvd:d∣f.Count
 rest:f.Period % (f.Count / d)=0
 turn:TurnZ f d (f.Period / (f.Count / d))
theorem good_self {f:Form} (h0:0<f.Count):Good f f.Count:=by
 have e:f.Count / f.Count=1:=Int.ediv_self (by omega)
 exact ⟨by omega,Int.dvd_refl _,by rw [e];omega,by rw [e,Int.ediv_one];exact Z7a (by omega)⟩
theorem copy_loop {x4:List (List Span)} (hc:x4.length*24<=reachBytes) (hs:∀ l∈x4,Len l):loopO (Z01.s1 x4) (0,[])=some x4:=by
 have hcl:(x4.length:Int)<4611686018427387904:=Z2u (b:=23) hc
 have hr:=Z1i
 have hro:=Z2z
 refine Z0B (I:=λs r=>r=x4/\∃ k:Nat,k<=x4.length/\s=((k:Int),x4.take k)) (λs=>x4.length-s.1.toNat) ?_ ⟨rfl,0,YI _,rfl⟩
 rintro s r ⟨rfl,k,hk,rfl⟩
 unfold Z01.s1
 by_cases hlt:k<r.length
 ·left
  have hl:=hs _ (YE hlt);unfold Len at hl;have hcp:clone? 16 r[k]=some r[k]:=by unfold clone?;rw [if_pos (by omega)]
  have hap:app? 24 (r.take k) [r[k]]=some (r.take (k+1)):=by
   rw [app?_ok (by simp only [YN,Ye,Yn];have:min k r.length+1<=r.length:=(by omega);have:=YU 24 this;omega)]
   rw [Yd hlt]
  refine ⟨((k:Int)+1,r.take (k+1)),?_,⟨rfl,k+1,hlt,by push_cast;rfl⟩,by simp;omega⟩
  rw [ZK (show (k:Int)<r.length by omega),cond_true,at?_nat hlt]
  simp only [Y0,hcp,hap];rw [Z3 (show _ by omega)]
 ·right
  have:k=r.length:=by omega
  subst this;rw [ZH (show ¬ ((r.length:Int)<r.length) by omega),cond_false,Yl]
theorem core_b0_eq {f:Form} (hl:Lim f) (hs:Shape f) {d:Int} (hd:1<=d) (hdn:d∣f.Count) (h0:0<f.Count) :
  (Good f d/\Z01.b0 f ([],0,0) d=some ((f.Core.take d.toNat,f.Period / (f.Count / d),d),1))\/(¬ Good f d/\Z01.b0 f ([],0,0) d=some (([],0,0),0)):=by
 have hle:d<=f.Count:=Int.le_of_dvd h0 hdn
 have hcl:(f.Core.length:Int)<4611686018427387904:=Z2u (b:=23) hl.core
 have hcnt:=hs.count
 have hm:0<f.Count / d:=Y0y h0 (by omega) hdn
 have hmle:f.Count / d<=f.Count:=Y0U _ (by omega)
 have htd:f.Count.tdiv d=f.Count / d:=Int.tdiv_eq_ediv_of_nonneg (by omega)
 have hq:0<=f.Period / (f.Count / d)/\f.Period / (f.Count / d)<=1099511627776:=by
  have h1:=hs.per;have h2:f.Period / (f.Count / d)<=f.Period:=Y0U _ h1.1;have h3:0<=f.Period / (f.Count / d):=Int.ediv_nonneg h1.1 (by omega)
  omega
 have hfl:Z1D f.Period (w64 (f.Count.tdiv d))=some (f.Period / (f.Count / d),f.Period % (f.Count / d),0):=by
  rw [htd,Z3 (show _ by omega),Z49 hl.period (by unfold In64;omega),Z6L hm]
 unfold Z01.b0
 rw [nz?_ok (by omega),hfl]
 simp only [Y0]
 by_cases hr:f.Period % (f.Count / d)=0
 ·rw [bne_f hr,cond_false];obtain ⟨r,h1,h2⟩:=canon_turn_eq hl hs hd hle hq
  rw [h1];cases r with
  | true=>
   left
   refine ⟨⟨hd,hdn,hr,h2.1 rfl⟩,?_⟩;have hcut:cut? f.Core 0 d=some (f.Core.take d.toNat):=by
    unfold cut?;rw [if_pos ⟨by omega,by omega,by omega⟩]
    rfl
   simp only [Y0,YD,cond_false,hcut];have:=copy_loop (x4:=f.Core.take d.toNat) (by have:=hl.core;simp only [YN];have h:=YU 24 (Nat.min_le_right d.toNat f.Core.length);omega) (λl hl'=>(hl.sets l (YX hl')).1)
   rw [this]
   rfl
  | false=>
   right
   exact ⟨λg=>(by have:=h2.2 g.turn;cases this),rfl⟩
 ·right
  refine ⟨λg=>hr g.rest,?_⟩;rw [bne_t hr]
  rfl
theorem least_good {f:Form} (h0:0<f.Count):∃ d,Good f d/\∀ d',Good f d'->d<=d':=by
 have:∃ n:Nat,Good f n:=⟨f.Count.toNat,by rw [Y15 (by omega)];exact good_self h0⟩
 obtain ⟨n,hn⟩:=this
 induction n using Nat.strongRecOn with
 | _ n ih=>
  by_cases h:∃ m:Nat,m<n/\Good f m
  ·obtain ⟨m,h1,h2⟩:=h;exact ih m h1 h2
  ·refine ⟨n,hn,λd' hd'=>?_⟩;apply Classical.byContradiction;intro hlt;have:=hd'.pos;exact h ⟨d'.toNat,by omega,by rw [Y15 (by omega)];exact hd'⟩
theorem canon_bare_eq {f:Form} (hl:Lim f):Z4H f=Z3v f:=by
 unfold Z4H Z3v
 rfl
theorem canon_core_eq {f:Form} (hl:Lim f) (hs:Shape f):(Bare f/\Z01 f=some (Form.mk 0 0 [] [])) \/
  (¬ Bare f/\0<f.Count/\∃ d,Good f d/\(∀ d',Good f d'->d<=d')/\Z01 f=some (Form.mk (f.Period / (f.Count / d)) d (f.Core.take d.toNat) [])):=by
 have hcl:(f.Core.length:Int)<4611686018427387904:=Z2u (b:=23) hl.core
 have hcnt:=hs.count
 obtain ⟨b,h1,h2⟩:=Z86 hl
 unfold Z01
 rw [canon_bare_eq hl,h1]
 cases b with
 | true=>exact .inl ⟨h2.1 rfl,rfl⟩
 | false=>
  right
  have hnb:¬ Bare f:=λh=>by have:=h2.2 h;cases this
  have h0:0<f.Count:=by
   rcases Nat.eq_zero_or_pos f.Core.length with h|h
   ·exact absurd (λl hl'=>by rw [List.length_eq_zero_iff.1 h] at hl';cases hl') hnb
   ·omega
  obtain ⟨d,hg,hmin⟩:=least_good h0;refine ⟨hnb,h0,d,hg,hmin,?_⟩;have hdn:d<=f.Count:=Int.le_of_dvd h0 hg.dvd;have hd1:=hg.pos;have hloop:loopO (Z0D.s0 f.Count (Z4Q (Z01.b0 f))) (1,(([],0,0),0))=some (.ret ((f.Core.take d.toNat,f.Period / (f.Count / d),d),1)):=by
   refine Z0B (I:=λs r=>r = .ret ((f.Core.take d.toNat,f.Period / (f.Count / d),d),1)/\∃ k:Int,1<=k/\k<=d/\s=(k,(([],0,0),0))) (λs=>(d-s.1).toNat) ?_ ⟨rfl,1,by omega,hd1,rfl⟩
   rintro s r ⟨rfl,k,k1,k2,rfl⟩;unfold Z0D.s0;rw [ZK (show k<=f.Count by omega),cond_true,nz?_ok (by omega)]
   simp only [Y0]
   by_cases hkd:k∣f.Count
   ·rw [Z9d (show f.Count.tmod k=0 from Int.tmod_eq_zero_of_dvd hkd),cond_true];rcases core_b0_eq hl hs k1 hkd h0 with ⟨g,e⟩|⟨g,e⟩
    ·have:k=d:=by have:=hmin k g;omega
     subst this
     right
     simp only [Z4Q,if_true,e,YA,Y0]
     rfl
    ·left
     have hne:k≠d:=λh=>g (h▸hg);refine ⟨(k+1,(([],0,0),0)),?_,⟨trivial,k+1,by omega,by omega,rfl⟩,by simp;omega⟩
     simp only [Z4Q,if_true,e,YA,Y0];rw [Z3 (show _ by omega)]
     rfl
   ·left
    have hne:k≠d:=λh=>hkd (h▸hg.dvd);refine ⟨(k+1,(([],0,0),0)),?_,⟨trivial,k+1,by omega,by omega,rfl⟩,by simp;omega⟩
    rw [Z5p (λh=>hkd (Int.dvd_of_tmod_eq_zero h)),cond_false];simp only [Y0,cond_false];rw [Z3 (show _ by omega)]
  unfold Z0D;rw [hloop]
  rfl
end Go.Dn

namespace Go.Dn
open Go
def Turn (h:Int->List Span) (d q:Int):Prop:=∀ i,h (i+d)=(h i).map (Zz q)
theorem Turn.neg {h:Int->List Span} {d q:Int} (t:Turn h d q):Turn h (-d) (-q):=λi=>by
 have:=t (i + -d)
 rw [show i + -d+d=i by omega] at this
 rw [this,Z2D,Int.add_right_neg,Z7r]
theorem Turn.add {h:Int->List Span} {d q d' q':Int} (t:Turn h d q) (t':Turn h d' q'):Turn h (d+d') (q+q'):=λi=>by
 rw [show i+(d+d')=(i+d)+d' by omega,t',t,Z2D]
theorem Turn.zero (h:Int->List Span):Turn h 0 0:=λi=>by rw [Int.add_zero,Z7r]
theorem Turn.nat {h:Int->List Span} {d q:Int} (t:Turn h d q):∀ k:Nat,Turn h (k*d) (k*q)
 | 0=>by simpa using Turn.zero h
 | k+1=>by
  have:=(Turn.nat t k).add t;push_cast;rw [Y1B,Int.one_mul,Y1B,Int.one_mul];exact this
theorem Turn.mul {h:Int->List Span} {d q:Int} (t:Turn h d q) (k:Int):Turn h (k*d) (k*q):=by
 rcases Int.natAbs_eq k with e|e
 ·rw [e];exact t.nat _
 ·rw [e,Int.neg_mul,Int.neg_mul];exact (t.nat _).neg
theorem Turn.agree {h h':Int->List Span} {d q a:Int} (t:Turn h d q) (t':Turn h' d q) (hd:0<d) (he:∀ i,a<=i->i<a+d->h i=h' i):h=h':=by
 funext i
 have e:i=((i-a) % d+a)+(i-a) / d*d:=by
  have:=Y06 (i-a) d;rw [Y02] at this;omega
 have h1:=Yt (i-a) (show d≠0 by omega)
 have h2:=Y03 (i-a) hd
 rw [e,t.mul,t'.mul,he _ (by omega) (by omega)]
noncomputable def csz (f:Form) (i:Int):List Span:=if f.Count=0 then [] else cs f i
theorem Z5u {f:Form} (h0:0<f.Count):csz f=cs f:=by funext i;exact if_neg (by omega)
theorem Z6B {f:Form} {i:Int} (h:¬ Zt f i):Z9 f i=csz f i:=by
 unfold csz
 by_cases h0:f.Count=0
 ·rw [if_pos h0,Z1e h h0]
 ·rw [if_neg h0,Z3G h h0];rfl
theorem csz_bare {f:Form} (hs:Shape f) (hb:Bare f) (i:Int):csz f i=[]:=by
 unfold csz
 by_cases h0:f.Count=0
 ·rw [if_pos h0]
 ·rw [if_neg h0];unfold cs;rw [hb _ (Z1x hs h0 i).2];rfl
def Z3K (f c:Form):Prop:=(Bare f/\c=Form.mk 0 0 [] [])\/(¬ Bare f/\0<f.Count/\∃ d,Good f d/\(∀ d',Good f d'->d<=d')/\c=Form.mk (f.Period / (f.Count / d)) d (f.Core.take d.toNat) [])
theorem canon_core_ok {f:Form} (hl:Lim f) (hs:Shape f):∃ c,Z01 f=some c/\Z3K f c:=by
 rcases canon_core_eq hl hs with ⟨h1,h2⟩|⟨h1,h2,d,h3,h4,h5⟩
 ·exact ⟨_,h2,.inl ⟨h1,rfl⟩⟩
 ·exact ⟨_,h5,.inr ⟨h1,h2,d,h3,h4,rfl⟩⟩
theorem Z3K.odd {f c:Form} (h:Z3K f c):c.Odd=[]:=by
 rcases h with ⟨_,rfl⟩|⟨_,_,d,_,_,rfl⟩<;>rfl
theorem Z3K.csz {f c:Form} (hs:Shape f) (h:Z3K f c):csz c=csz f:=by
 rcases h with ⟨hb,rfl⟩|⟨hb,h0,d,hg,_,rfl⟩
 ·funext i;rw [csz_bare hs hb];rfl
 ·have hd:=hg.pos;have hdn:d<=f.Count:=Int.le_of_dvd h0 hg.dvd;have hcnt:=hs.count;rw [Z5u h0,Z5u (show 0<(Form.mk (f.Period / (f.Count / d)) d (f.Core.take d.toNat) []).Count by show 0<d;omega)]
  refine Turn.agree (a:=0) (d:=d) (q:=f.Period / (f.Count / d)) (Z7a (f:=Form.mk (f.Period / (f.Count / d)) d (f.Core.take d.toNat) []) (show d≠0 by omega)) hg.turn (by omega) (λi i0 i1=>?_)
  rw [Z43 i0 (show i<d by omega),Z43 i0 (by omega)]
  show (f.Core.take d.toNat).getD i.toNat []=_;rw [YQ,YQ,List.getElem?_take_of_lt (by omega)]
theorem Z3K.shape {f c:Form} (hs:Shape f) (h:Z3K f c):Shape c:=by
 rcases h with ⟨hb,rfl⟩|⟨hb,h0,d,hg,_,rfl⟩
 ·exact ⟨rfl,by simp,by simp,by simp,by simp,λj k a b _ h=>by simp at h⟩
 ·have hd:=hg.pos;have hdn:d<=f.Count:=Int.le_of_dvd h0 hg.dvd;have hcnt:=hs.count;have hm:0<f.Count / d:=Y0y h0 (by omega) hg.dvd
  have hp:0<f.Period:=by
   have:=hs.per;have:=hs.zero;rcases Int.lt_or_le 0 f.Period with h|h
   ·exact h
   ·have:f.Period=0:=by omega
    have:=hs.zero.2 this;omega
  have hq:0<f.Period / (f.Count / d):=Y0y hp (by omega) (Int.dvd_of_emod_eq_zero hg.rest)
  have hq2:f.Period / (f.Count / d)<=f.Period:=Y0U _ (by omega)
  refine ⟨?_,?_,?_,?_,by simp,λj k a b _ h=>by simp at h⟩
  ·simp only [YN];omega
  ·simp only;omega
  ·simp only;have:=hs.per;omega
  ·intro l hl';exact hs.core l (YX hl')
theorem Z3K.lim {f c:Form} (hl:Lim f) (hs:Shape f) (h:Z3K f c):Lim c:=by
 have hsc:=h.shape hs
 have hn:c.Core.length<=f.Core.length/\∀ l∈c.Core,l∈f.Core:=by
  rcases h with ⟨hb,rfl⟩|⟨hb,h0,d,hg,_,rfl⟩
  ·exact ⟨YI _,λl hl'=>by cases hl'⟩
  ·exact ⟨by simp only [YN];omega,λl hl'=>YX hl'⟩
 have hc:=hl.core
 have h24:=YU 24 hn.1
 have hp:=hsc.per
 have hcnt:=hsc.count
 have hcl:(f.Core.length:Int)<4611686018427387904:=Z2u (b:=23) hl.core
 exact ⟨by omega,λl hl'=>hl.sets l (hn.2 l hl'),by rw [h.odd];simp [Z1i],by rw [h.odd];simp,by unfold In64;omega,by unfold In64;omega⟩
theorem Z3K.Z9 {f c:Form} (hs:Shape f) (h:Z3K f c) (i:Int):Z9 c i=Go.Dn.csz f i:=by
 rw [Z6B (by rintro ⟨g,hg,_⟩;rw [h.odd] at hg;cases hg),h.csz hs]
theorem ZDV {f c:Form} (hl:Lim f) (hs:Shape f) (h:Z3K f c) {g:Granule} (hg:g∈f.Odd):∃ r,Z3m c g=some r/\(r=true↔csz f g.Index=g.Ticks):=by
 obtain ⟨hr,ht⟩:=hs.odd g hg
 have hlc:=h.lim hl hs
 have hsc:=h.shape hs
 unfold Z3m
 rw [Z8h hlc hsc (Z41 ht)]
 by_cases hf:fits c g.Index
 ·rw [if_pos ⟨ht,hf⟩];obtain ⟨r,h1,h2⟩:=spans_Same_eq (a:=Go.Dn.Z9 c g.Index) (b:=g.Ticks) (Z7Z hlc hsc _);refine ⟨r,?_,?_⟩
  ·simp only [Y0];rw [Z9d rfl,cond_true,h1];rfl
  ·rw [h2,h.Z9 hs]
 ·rw [if_neg (λh'=>hf h'.2)];refine ⟨false,rfl,⟨(λh'=>nomatch h'),λe=>absurd (λs hs'=>?_) hf⟩⟩;rw [h.Z9 hs,e] at hs';obtain ⟨k,hk⟩:=YC hs';have:=Z8N.1 hr k s hk;exact ⟨this.1,this.2.1⟩
open Classical in
noncomputable def oddly (f:Form) (g:Granule):Bool:=decide (¬ csz f g.Index=g.Ticks)
noncomputable def Z7G (f c:Form):Form:=Form.mk c.Period c.Count c.Core (f.Odd.filter (oddly f))
theorem canon_Form_eq {f:Form} (hl:Lim f) (hs:Shape f):∃ c,Z3K f c/\Z0q f=some (Z7G f c):=by
 obtain ⟨c,h1,hc⟩:=canon_core_ok hl hs
 refine ⟨c,hc,?_⟩
 unfold Z0q
 rw [h1]
 simp only [Y0]
 have hol:(f.Odd.length:Int)<4611686018427387904:=Z2u (b:=31) hl.odd
 have hr:=Z1i
 have hro:=Z2z
 have:loopO (Z0q.s0 f c) (0,[])=some (f.Odd.filter (oddly f)):=by
  refine Z0B (I:=λs r=>r=f.Odd.filter (oddly f)/\∃ k:Nat,k<=f.Odd.length/\s=((k:Int),(f.Odd.take k).filter (oddly f))) (λs=>f.Odd.length-s.1.toNat) ?_ ⟨rfl,0,YI _,rfl⟩;rintro s r ⟨rfl,k,hk,rfl⟩;unfold Z0q.s0
  by_cases hlt:k<f.Odd.length
  ·left
   have hmem:=YE hlt;obtain ⟨r,p1,p2⟩:=ZDV hl hs hc hmem;have htk:f.Odd.take (k+1)=f.Odd.take k++[f.Odd[k]]:=(Yd hlt).symm;have hlen:=(hl.ticks _ hmem).2.1;unfold Len at hlen;refine ⟨((k:Int)+1,(f.Odd.take (k+1)).filter (oddly f)),?_,⟨rfl,k+1,hlt,by push_cast;rfl⟩,by simp;omega⟩
   rw [ZK (show (k:Int)<f.Odd.length by omega),cond_true,at?_nat hlt]
   simp only [Y0,p1];rw [Z3 (show _ by omega),htk,List.filter_append]
   cases r with
   | true=>
    have:oddly f f.Odd[k]=false:=by unfold oddly;rw [decide_eq_false_iff_not];exact λh=>h (p2.1 rfl)
    simp only [YD,cond_false,Y0,List.filter_cons,this,Y6,if_false,List.filter_nil,YK]
   | false=>
    have:oddly f f.Odd[k]=true:=by unfold oddly;rw [decide_eq_true_iff];exact λh=>by have:=p2.2 h;cases this
    have hcp:clone? 16 f.Odd[k].Ticks=some f.Odd[k].Ticks:=by unfold clone?;rw [if_pos (by omega)]
    have hfl:((f.Odd.take k).filter (oddly f)).length<=k:=by
     have:=Y0c (oddly f) (f.Odd.take k);simp only [YN] at this;omega
    have hap:app? 32 ((f.Odd.take k).filter (oddly f)) [Granule.mk f.Odd[k].Index f.Odd[k].Ticks]=some ((f.Odd.take k).filter (oddly f)++[f.Odd[k]]):=by
     rw [app?_ok (by simp only [Ye,Yn];have h3:=hl.odd;have:=YU 32 (show ((f.Odd.take k).filter (oddly f)).length+1<=f.Odd.length by omega);omega)]
    simp only [Yx,cond_true,Y0,hcp,hap,List.filter_cons,this,if_true,List.filter_nil]
  ·right
   have:k=f.Odd.length:=by omega
   subst this;rw [ZH (show ¬ ((f.Odd.length:Int)<f.Odd.length) by omega),cond_false,Yl]
 rw [this]
 rfl
end Go.Dn

namespace Go.Dn
open Go
end Go.Dn

namespace Go.Dn
open Go
theorem ZAv {l:List Granule}:Inc l↔l.Pairwise (λa b=>a.Index<b.Index):=by
 rw [Y01]
 constructor
 ·intro h i j hi hj hij;exact h i j _ _ hij (Y2 hi) (Y2 hj)
 ·intro h j k a b hjk ha hb;obtain ⟨h1,rfl⟩:=List.getElem?_eq_some_iff.1 ha;obtain ⟨h2,rfl⟩:=List.getElem?_eq_some_iff.1 hb;exact h j k h1 h2 hjk
theorem Inc.filter {l:List Granule} (h:Inc l) (p:Granule->Bool):Inc (l.filter p):=ZAv.2 ((ZAv.1 h).filter p)
theorem Z8B {f c:Form} (hs:Shape f) (h:Z3K f c):csz (Z7G f c)=csz f:=by
 rw [<- h.csz hs];rfl
theorem oddly_iff {f:Form} {g:Granule}:oddly f g=true↔¬ csz f g.Index=g.Ticks:=by unfold oddly;rw [decide_eq_true_iff]
theorem Z58 {f c:Form} {g:Granule}:g∈(Z7G f c).Odd↔g∈f.Odd/\oddly f g=true:=List.mem_filter
theorem ZB5 {f c:Form} (hs:Shape f) (h:Z3K f c):Z9 (Z7G f c)=Z9 f:=by
 funext i
 by_cases ho:Zt f i
 ·obtain ⟨g,hg,rfl⟩:=ho;rw [Z1T hs.inc hg]
  by_cases hod:oddly f g=true
  ·exact Z1T (hs.inc.filter _) (Z58.2 ⟨hg,hod⟩)
  ·have he:csz f g.Index=g.Ticks:=Classical.byContradiction λhn=>hod (oddly_iff.2 hn);rw [Z6B (f:=Z7G f c),Z8B hs h,he];rintro ⟨g',hg',e⟩;obtain ⟨m1,m2⟩:=Z58.1 hg';have:=hs.inc.uniq m1 hg e;subst this;exact hod m2
 ·rw [Z6B ho,Z6B (f:=Z7G f c),Z8B hs h];rintro ⟨g',hg',e⟩;exact ho ⟨g',(Z58.1 hg').1,e⟩
theorem Z8E {f c:Form} (hs:Shape f) (h:Z3K f c):Shape (Z7G f c):=by
 have:=h.shape hs
 exact ⟨this.count,this.zero,this.per,this.core,λg hg=>hs.odd g (Z58.1 hg).1,hs.inc.filter _⟩
theorem canonF_lim {f c:Form} (hl:Lim f) (hs:Shape f) (h:Z3K f c):Lim (Z7G f c):=by
 have:=h.lim hl hs
 refine ⟨this.core,this.sets,?_,λg hg=>hl.ticks g (Z58.1 hg).1,this.count,this.period⟩
 have h1:(Z7G f c).Odd.length<=f.Odd.length:=Y0c _ _
 have:=hl.odd
 have:=YU 32 h1
 omega
theorem turns_of {f:Form} (hs:Shape f) (h:0<f.Count->∀ i k,i<k->cs f i≠[]->cs f k≠[]->lstT (cs f i)<fstT (cs f k)):Turns f:=by
 have hcnt:=hs.count
 have at_:∀ (j:Nat) (a:List Span),f.Core[j]? = some a->cs f j=a:=λj a ha=>by
  have:=(List.getElem?_eq_some_iff.1 ha).1;rw [Z43 (by omega) (by omega),YQ,YH,ha];rfl
 have hpw:f.Core.Pairwise (λa b=>a≠[]->b≠[]->lstT a<fstT b):=by
  rw [Y01];intro i j hi hj hij na nb;have h1:=at_ i _ (Y2 hi);have h2:=at_ j _ (Y2 hj);have:=h (by omega) i j (by omega) (by rw [h1];exact na) (by rw [h2];exact nb)
  rw [h1,h2] at this;exact this
 constructor
 ·intro k a b ha hb;have hp:=hpw.filter (λl=>decide (l.length>0));rw [Y01] at hp;obtain ⟨h1,rfl⟩:=List.getElem?_eq_some_iff.1 ha;obtain ⟨h2,rfl⟩:=List.getElem?_eq_some_iff.1 hb;exact hp k (k+1) h1 h2 (by omega) (Z4D.1 (YE h1)).2 (Z4D.1 (YE h2)).2
 ·intro a b ha hb;obtain ⟨ma,na⟩:=Z4D.1 (List.mem_of_getLast? ha);obtain ⟨mb,nb⟩:=Z4D.1 (List.mem_of_head? hb);obtain ⟨j,hj⟩:=YC ma;obtain ⟨k,hk⟩:=YC mb;have hjl:=(List.getElem?_eq_some_iff.1 hj).1;have h1:=at_ j _ hj;have h2:=at_ k _ hk;have h3:cs f ((k:Int)+f.Count)=b.map (Zz f.Period):=by rw [Z7a (by omega),h2]
  have:=h (by omega) j ((k:Int)+f.Count) (by omega) (by rw [h1];exact na) (by rw [h3];simpa using nb)
  rw [h1,h3,(Z0Z _ nb).2] at this;exact this
theorem csz_order {f:Form} (hs:Shape f) (ht:Turns f) {i k:Int} (hik:i<k) (ni:csz f i≠[]) (nk:csz f k≠[]):lstT (csz f i)<fstT (csz f k):=by
 have h0:f.Count≠0:=λh=>ni (by unfold csz;rw [if_pos h])
 unfold csz at ni nk ⊢
 rw [if_neg h0] at ni nk ⊢
 rw [if_neg h0]
 have n1:Z2R f i≠[]:=λh=>ni (by unfold cs;rw [h];rfl)
 have n2:Z2R f k≠[]:=λh=>nk (by unfold cs;rw [h];rfl)
 have:=ZDM hs ht h0 hik n1 n2
 unfold cs
 rw [(Z0Z _ n1).1,(Z0Z _ n2).2]
 exact this
theorem beside_congr {f g:Form} (h:Z9 g=Z9 f) {i:Int} (hb:Beside f i):Beside g i:=by
 intro lo hi hlo hhi
 have hu:Under f i lo:=by unfold Under at hlo ⊢;rw [h] at hlo;exact hlo
 have ha:Above f i hi:=by unfold Above at hhi ⊢;rw [h] at hhi;exact hhi
 have:=hb lo hi hu ha
 unfold BesideR fits at this ⊢
 rw [h]
 exact this
theorem canonF_right {f c:Form} (hr:RightF f) (h:Z3K f c):RightF (Z7G f c):=by
 have hs:=hr.shape
 refine ⟨Z8E hs h,turns_of (Z8E hs h) (λh0 i k hik ni nk=>?_),λg hg=>beside_congr (ZB5 hs h) (hr.beside g (Z58.1 hg).1)⟩
 rw [<- Z5u h0,Z8B hs h] at ni nk ⊢
 exact csz_order hs hr.turns hik ni nk
end Go.Dn

namespace Go.Dn
open Go
theorem ZCB {α:Type} (g:α->Nat):∀ (n:Nat) (l:List α),((l.take n).map g).sum<=(l.map g).sum
 | 0,l=>by simp
 | n+1,[]=>by simp
 | n+1,x::l=>by
  have:=ZCB g n l;simp only [List.take_succ_cons,Y0H,List.sum_cons];omega
theorem coreOf_le {f c:Form} (hs:Shape f) (h:Z3K f c):c.Count<=f.Count/\c.Period<=f.Period/\c.Core.length<=f.Core.length/\(c.Core.map List.length).sum<=(f.Core.map List.length).sum:=by
 have hp:=hs.per
 have hcnt:=hs.count
 rcases h with ⟨hb,rfl⟩|⟨hb,h0,d,hg,hmin,rfl⟩
 ·exact ⟨by simp only;omega,by simp only;omega,YI _,YI _⟩
 ·exact ⟨Int.le_of_dvd h0 hg.dvd,Y0U _ hp.1,by simp only [YN];omega,ZCB _ _ _⟩
end Go.Dn

namespace Go.Dn
open Go
theorem shift_ne {l:List Span} (hn:l≠[]) {a b:Int} (h:l.map (Zz a)=l.map (Zz b)):a=b:=by
 cases l with
 | nil=>exact absurd rfl hn
 | cons s l=>
  simp only [Y0H,List.cons.injEq,Zz,Span.mk.injEq] at h;omega
theorem Turn.uniq {h:Int->List Span} {d q q':Int} (t:Turn h d q) (t':Turn h d q') {i:Int} (hn:h i≠[]):q=q':=shift_ne hn ((t i).symm.trans (t' i))
theorem ZCs {f:Form} (h0:0<f.Count):Turn (cs f) f.Count f.Period:=Z7a (by omega)
theorem cs_some {f:Form} (hs:Shape f) (hb:¬ Bare f) (h0:0<f.Count) (a:Int):∃ i,a<=i/\i<a+f.Count/\cs f i≠[]:=by
 apply Classical.byContradiction
 intro hn
 apply hb
 have hz:cs f=λ_=>[]:=Turn.agree (a:=a) (ZCs h0) (λi=>rfl) h0 (λi i0 i1=>Classical.byContradiction λh=>hn ⟨i,i0,i1,h⟩)
 intro l hl
 obtain ⟨k,hk⟩:=YC hl
 have hkl:=(List.getElem?_eq_some_iff.1 hk).1
 have hcnt:=hs.count
 have:=congrFun hz (k:Int)
 rw [Z43 (by omega) (by omega),YQ,YH,hk] at this
 exact this
def NearF (f:Form) (m:Int):Prop:=∀ g∈f.Odd,-m<=g.Index/\g.Index<=m
end Go.Dn

namespace Go.Dn
open Go
end Go.Dn

namespace Go.Dn
open Go
theorem pigeon:∀ (l:List Int) (c:Nat->Int),(∀ a b,c a=c b->a=b)->∃ k,k<=l.length/\c k∉l
 | [],c,_=>⟨0,YB _,by simp⟩
 | x::l,c,hc=>by
  by_cases h:∃ k0,c k0=x
  ·obtain ⟨k0,rfl⟩:=h;obtain ⟨k,h1,h2⟩:=pigeon l (λk=>if k<k0 then c k else c (k+1)) (λa b hab=>by
    split at hab<;>split at hab<;>have:=hc _ _ hab<;>omega)
   split at h2
   ·rename_i hk;refine ⟨k,by simp;omega,?_⟩
    rw [List.mem_cons];rintro (h|h)
    ·have:=hc _ _ h;omega
    ·exact h2 h
   ·rename_i hk;refine ⟨k+1,by simp;omega,?_⟩
    rw [List.mem_cons];rintro (h|h)
    ·have:=hc _ _ h;omega
    ·exact h2 h
  ·obtain ⟨k,h1,h2⟩:=pigeon l c hc;refine ⟨k,by simp;omega,?_⟩
   rw [List.mem_cons];rintro (h'|h')
   ·exact h ⟨k,h'⟩
   ·exact h2 h'
theorem free_core {f:Form} (hs:Shape f) (hb:¬ Bare f) (h0:0<f.Count) (ho:f.Odd.length<=8) (a:Int):∃ j,a<=j/\j<a+f.Count*9/\¬ Zt f j/\Z9 f j≠[]:=by
 obtain ⟨i,h1,h2,h3⟩:=cs_some hs hb h0 a
 obtain ⟨k,hk,hn⟩:=pigeon (f.Odd.map (·.Index)) (λk=>i+f.Count*k) (λa b hab=>by
  have h4:f.Count*(a:Int)=f.Count*b:=by omega
  have:=Int.eq_of_mul_eq_mul_left (by omega) h4
  omega)
 rw [YJ] at hk
 have hk9:(k:Int)+1<=9:=by omega
 have hkc:f.Count*((k:Int)+1)<=f.Count*9:=YT hk9 (by omega)
 rw [Y0m,Int.mul_one] at hkc
 have hkn:0<=f.Count*(k:Int):=Int.mul_nonneg (by omega) (by omega)
 have hno:¬ Zt f (i+f.Count*k):=by
  rintro ⟨g,hg,he⟩;exact hn (List.mem_map.2 ⟨g,hg,he⟩)
 refine ⟨i+f.Count*k,by omega,by omega,hno,?_⟩
 rw [Z6B hno,Z5u h0,Z7p (by omega)]
 intro h
 rw [List.map_eq_nil_iff] at h
 exact h3 h
end Go.Dn

namespace Go.Dn
open Go
theorem ref05_Down_eq {a b:Int} (ha:In64 a) (hb:0<b) (hb2:In64 b):Z3N a b=some (a / b,a % b):=by
 unfold Z3N
 have hb0:b≠0:=by omega
 rw [nz?_ok hb0]
 simp only [Y0]
 have hq:=tdiv_in ha hb0 (by omega)
 have hfd:a.fdiv b=a / b:=(Z4v hb).1
 have hfm:a.fmod b=a % b:=(Z4v hb).2
 by_cases hr:a.tmod b<0
 ·have h1:a.tmod b≠0:=by omega
  have h2:¬(a.tmod b<0↔b<0):=λh=>by have:=h.1 hr;omega
  obtain ⟨e1,e2⟩:=floor_up hb0 h1 h2;have hq1:=tdiv_in1 ha hb0 h1;rw [ZK hr,cond_true];have e3:a / b=a.tdiv b-1:=by rw [<- hfd];exact e1
  have e4:a % b=a.tmod b+b:=by rw [<- hfm];exact e2
  have hm:=tmod_in (a:=a) hb2 hb0;have hm2:=Y03 a hb;have hm3:=Yt a hb0
  simp only [Y0];unfold In64 at *
  rw [Z3 (x:=a.tdiv b) (by omega),Z3 (x:=a.tdiv b-1) (by omega),Z3 (x:=a.tmod b+b) (by omega),e3,e4]
 ·have h2:a.tmod b=0\/(a.tmod b<0↔b<0):=.inr ⟨λh=>absurd h hr,λh=>by omega⟩
  obtain ⟨e1,e2⟩:=ZDr hb0 h2;rw [ZH hr,cond_false];have e3:a / b=a.tdiv b:=by rw [<- hfd];exact e1
  have e4:a % b=a.tmod b:=by rw [<- hfm];exact e2
  simp only [Y0];unfold In64 at *
  rw [Z3 (x:=a.tdiv b) (by omega),e3,e4]
def Mid (x:Int):Prop:=-1000000000000000000<=x/\x<=1000000000000000000
end Go.Dn

namespace Go.Dn
open Go
end Go.Dn

namespace Go.Dn
open Go
theorem ZBj {n:Int} (h0:0<=n) (hn:n<=4611686018427387904) {f:Int->Option Bool} {p:Int->Bool} (hf:∀ z,0<=z->z<n->f z=some (p z)) (hm:∀ a b,0<=a->a<=b->b<n->p a=true->p b=true) :
  ∃ r,Z0f n f=some r/\0<=r/\r<=n/\(∀ z,0<=z->z<r->p z=false)/\(∀ z,r<=z->z<n->p z=true):=by
 unfold Z0f
 obtain ⟨r,h1,h2⟩:=Z0R (step:=Z0f.s0 f)
  (λs=>0<=s.1/\s.1<=s.2/\s.2<=n/\(∀ z,0<=z->z<s.1->p z=false)/\(∀ z,s.2<=z->z<n->p z=true))
  (λs=>(s.2-s.1).toNat) (λr=>0<=r/\r<=n/\(∀ z,0<=z->z<r->p z=false)/\(∀ z,r<=z->z<n->p z=true)) (by
   rintro ⟨i,j⟩ ⟨a1,a2,a3,a4,a5⟩;simp only at a1 a2 a3 a4 a5;unfold Z0f.s0;simp only
   by_cases hlt:i<j
   ·left
    rw [ZK hlt,cond_true];have e:w64 ((IntKind.u64.wrap (w64 (i+j))).fdiv (2 ^ 1))=(i+j) / 2:=by
     rw [Z3 (x:=i+j) (by omega),Z5U,Y0Z _ (by decide)]
     have:(2 ^ 1:Int)=2:=rfl;rw [this,Z3 (by omega)]
     omega
    rw [e,hf _ (by omega) (by omega)]
    simp only [Y0];cases hp:p ((i+j) / 2) with
    | false=>
     simp only [Yx,cond_true,Y0];rw [Z3 (by omega)]
     refine ⟨_,rfl,⟨by simp only;omega,by simp only;omega,a3,?_,a5⟩,by simp only;omega⟩
     intro z z0 z1;cases hz:p z with
     | false=>rfl
     | true=>
      have:=hm z ((i+j) / 2) z0 (by simp only at z1;omega) (by omega) hz
      rw [hp] at this;cases this
    | true=>
     simp only [YD,cond_false,Y0];refine ⟨_,rfl,⟨a1,by simp only;omega,by simp only;omega,a4,?_⟩,by simp only;omega⟩
     intro z z0 z1;exact hm ((i+j) / 2) z (by omega) z0 z1 hp
   ·right
    rw [ZH hlt,cond_false];exact ⟨_,rfl,a1,by omega,a4,λz z0 z1=>a5 z (by omega) z1⟩) (0,n) ⟨by simp,h0,by simp,λz z0 z1=>by simp only at z1;omega,λz z0 z1=>by simp only at z0;omega⟩
 rw [h1]
 exact ⟨r,rfl,h2⟩
theorem hull_eq {l:List Span} (hl:Len l):Z1f l=some (if l=[] then (⟨0,0⟩,false) else (⟨fstT l,lstT l⟩,true)):=by
 have hlen:=Z2u (b:=15) hl
 unfold Z1f
 by_cases h:l=[]
 ·subst h;rfl
 ·have hp:0<l.length:=List.length_pos_iff.2 h;rw [if_neg h,Z5p (by omega),cond_false,Z3 (by omega)]
  have e1:at? l 0=some (l.head h):=by
   have:=at?_nat (l:=l) (k:=0) hp;rw [show ((0:Nat):Int)=0 from rfl] at this;rw [this,List.head_eq_getElem]
  have e2:at? l ((l.length:Int)-1)=some (l.getLast h):=by
   have:=at?_nat (l:=l) (k:=l.length-1) (by omega)
   rw [show ((l.length-1:Nat):Int)=(l.length:Int)-1 by omega] at this
   rw [this,Y0k]
  rw [e1,e2];simp only [Y0];unfold fstT lstT;rw [Y07 h,Y00 h]
  rfl
def Z9C (g:Form) (j:Nat):Option size_spot:=if g.Core.getD j []=[] then none else some ⟨(j:Int),⟨fstT (g.Core.getD j []),lstT (g.Core.getD j [])⟩⟩
def Z85 (g:Form) (k:Nat):List size_spot:=(List.range k).filterMap (Z9C g)
theorem spotsUp_succ (g:Form) (k:Nat):Z85 g (k+1)=Z85 g k++(Z9C g k).toList:=by
 unfold Z85
 rw [List.range_succ,List.filterMap_append]
 cases h:Z9C g k<;>simp [h]
theorem Z90 (g:Form) (k:Nat):(Z85 g k).length<=k:=by
 have:=List.length_filterMap_le (Z9C g) (List.range k)
 rw [Y0I] at this
 exact this
abbrev Z2T (g:Form):List size_spot:=Z85 g g.Core.length
theorem made_eq {f g:Form} (hg:Z0q f=some g) (hl:Lim g) (hc:g.Core.length<=12):Z2I f=some ⟨g,Z2T g⟩:=by
 have hr:=Z2z
 unfold Z2I
 rw [hg]
 simp only [Y0]
 have:loopO (Z2I.s0 g) (0,[])=some (Z2T g):=by
  refine Z0B (I:=λs r=>r=Z2T g/\∃ k:Nat,k<=g.Core.length/\s=((k:Int),Z85 g k)) (λs=>g.Core.length-s.1.toNat) ?_ ⟨rfl,0,YI _,rfl⟩;rintro s r ⟨rfl,k,hk,rfl⟩;unfold Z2I.s0
  by_cases hlt:k<g.Core.length
  ·left
   have hm:=YE hlt;have hgd:g.Core.getD k []=g.Core[k]:=by rw [YQ,Y2 hlt];rfl
   have hul:=Z90 g k;simp only;rw [ZK (show (k:Int)<g.Core.length by omega),cond_true,at?_nat hlt]
   simp only [Y0];rw [hull_eq (hl.sets _ hm).1];simp only [Y0];have hsp:=spotsUp_succ g k;unfold Z9C at hsp;rw [hgd] at hsp
   by_cases hne:g.Core[k]=[]
   ·rw [if_pos hne];rw [if_pos hne] at hsp;simp only [cond_false,Y0];rw [Z3 (by omega)]
    exact ⟨_,rfl,⟨trivial,k+1,hlt,by rw [hsp];push_cast;simp⟩,by simp only;omega⟩
   ·rw [if_neg hne];rw [if_neg hne] at hsp;simp only [cond_true];rw [app?_ok (by simp only [Ye,Yn];omega)]
    simp only [Y0];rw [Z3 (by omega)]
    exact ⟨_,rfl,⟨trivial,k+1,hlt,by rw [hsp];push_cast;simp⟩,by simp only;omega⟩
  ·right
   have:k=g.Core.length:=by omega
   subst this;rw [ZH (by simp only;omega),cond_false]
 rw [this]
 rfl
structure Spots (g:Form) (l:List size_spot):Prop where
 mem:∀ s∈l,0<=s.index/\s.index<g.Count/\cs g s.index≠[]/\s.place.first=fstT (cs g s.index)/\s.place.last=lstT (cs g s.index)
 all:∀ j,0<=j->j<g.Count->cs g j≠[]->∃ s∈l,s.index=j
 inc:l.Pairwise (λa b=>a.index<b.index)
theorem spots_ok {g:Form} (hs:Shape g):Spots g (Z2T g):=by
 have hcnt:=hs.count
 have hcs:∀ j:Nat,j<g.Core.length->cs g j=g.Core.getD j []:=λj hj=>by
  rw [Z43 (by omega) (by omega)];rfl
 refine ⟨?_,?_,?_⟩
 ·intro s hs';obtain ⟨j,hj,hjs⟩:=List.mem_filterMap.1 hs';have hj:=List.mem_range.1 hj;unfold Z9C at hjs
  split at hjs
  ·cases hjs
  ·rename_i hne;cases hjs;refine ⟨by simp only;omega,by simp only;omega,?_,?_,?_⟩<;>simp only<;>rw [hcs j hj]
   exact hne
 ·intro j h0 h1 hne;have hj:j.toNat<g.Core.length:=by omega
  have e:((j.toNat:Nat):Int)=j:=by omega
  have:=hcs j.toNat hj;rw [e] at this;rw [this] at hne;refine ⟨⟨(j.toNat:Int),⟨fstT (g.Core.getD j.toNat []),lstT (g.Core.getD j.toNat [])⟩⟩,List.mem_filterMap.2 ⟨j.toNat,List.mem_range.2 hj,?_⟩,e⟩;unfold Z9C;rw [if_neg hne]
 ·unfold Z2T Z85;rw [List.pairwise_filterMap];refine List.Pairwise.imp ?_ List.pairwise_lt_range;intro a b hab x hx y hy;unfold Z9C at hx hy
  split at hx<;>split at hy<;>simp_all
  subst hx hy;simp only;omega
theorem Z6d {g:Form} (hs:Shape g) (ht:Turns g) (h0:0<g.Count) {i k:Int} (hik:i<k) (ni:cs g i≠[]) (nk:cs g k≠[]):lstT (cs g i)<fstT (cs g k):=by
 have:=csz_order hs ht hik (by rw [Z5u h0];exact ni) (by rw [Z5u h0];exact nk)
 rwa [Z5u h0] at this
theorem Z38 {g:Form} (hs:Shape g) (h0:0<g.Count) {j:Int} (j0:0<=j) (j1:j<g.Count):RightL (cs g j):=by
 rw [Z43 j0 j1]
 have:=hs.count
 have hj:j.toNat<g.Core.length:=by omega
 rw [YQ,Y2 hj]
 exact hs.core _ (YE hj)
theorem Z5x {g:Form} (h0:0<g.Count) (i q:Int):cs g (i+g.Count*q)=(cs g i).map (Zz (q*g.Period)):=Z7p (by omega) i q
def LastC (g:Form) (t i:Int):Prop:=cs g i≠[]/\fstT (cs g i)<=t/\∀ k,i<k->cs g k≠[]->t<fstT (cs g k)
def FirstC (g:Form) (t i:Int):Prop:=cs g i≠[]/\t<=lstT (cs g i)/\∀ k,k<i->cs g k≠[]->lstT (cs g k)<t
theorem at?_get {α:Type} {l:List α} {i:Int} (h0:0<=i) (h1:i<l.length):∃ x,at? l i=some x/\l[i.toNat]? = some x/\x∈l:=by
 have h:i.toNat<l.length:=by omega
 exact ⟨l[i.toNat],at?_lt h0 h1,Y2 h,YE h⟩
theorem Z68 {g:Form} {l:List size_spot} (h:Spots g l) {a b:Nat} {x y:size_spot} (ha:l[a]? = some x) (hb:l[b]? = some y) (hab:a<b):x.index<y.index:=by
 have h1:=(List.getElem?_eq_some_iff.1 ha)
 have h2:=(List.getElem?_eq_some_iff.1 hb)
 obtain ⟨l1,e1⟩:=h1
 obtain ⟨l2,e2⟩:=h2
 have:=List.pairwise_iff_getElem.1 h.inc a b l1 l2 hab
 rw [e1,e2] at this
 exact this
structure Fit (g:Form):Prop where
 lim:Lim g
 shape:Shape g
 turns:Turns g
 few:g.Core.length<=12
 odds:g.Odd.length<=8
theorem Fit.per {g:Form} (h:Fit g) (h0:0<g.Count):0<g.Period:=by
 have h1:=h.shape.per
 have h2:=h.shape.zero
 omega
def BigT (t:Int):Prop:=-4398046511104<=t/\t<=4398046511104
theorem Z4P {g:Form} (h0:0<g.Count) (k:Int):∃ j q,0<=j/\j<g.Count/\k=j+g.Count*q/\cs g k=(cs g j).map (Zz (q*g.Period)):=by
 have e:k=k % g.Count+g.Count*(k / g.Count):=(Y06 k g.Count).symm
 refine ⟨k % g.Count,k / g.Count,Yt k (by omega),Y03 k h0,e,?_⟩
 conv=>lhs;rw [e]
 exact Z5x h0 _ _
theorem ZDf {n p:Int} (hp:0<p) (hn : -8796093022208<=n/\n<=8796093022208) : -8796093022208<=n / p/\n / p<=8796093022208:=by
 constructor
 ·have : -8796093022208<=n / p ↔ -8796093022208*p<=n:=Int.le_ediv_iff_mul_le hp;rw [this];have : -8796093022208*p<=-8796093022208*1:=by omega
  omega
 ·by_cases h:0<=n
  ·have:=Y0U p h;omega
  ·have:=Y0x (show n<0 by omega) hp;omega
theorem ZDh {q c:Int} (hq : -8796093022208<=q/\q<=8796093022208) (hc:0<=c/\c<=12) : -105553116266496<=q*c/\q*c<=105553116266496:=by
 constructor
 ·have:=Ym hq.1 hc.1;omega
 ·have:=Ym hq.2 hc.1;omega
theorem ZAx {g:Form} (h:Fit g) (h0:0<g.Count) {sp:List size_spot} (hsp:Spots g sp) (hn:sp≠[]) (hln:sp.length<=12) {t:Int} (ht:BigT t) :
  ∃ i,Z0V ⟨g,sp⟩ t false=some i/\LastC g t i/\-211106232532992<=i/\i<=211106232532992:=by
 unfold BigT at ht
 have hs:=h.shape
 have hper:=h.per h0
 have hper2:=hs.per
 have hcnt:=hs.count
 have hfew:=h.few
 have hlen:0<sp.length:=List.length_pos_iff.2 hn
 obtain ⟨x5,a1,a2,a3⟩:=at?_get (l:=sp) (i:=0) (by omega) (by omega)
 obtain ⟨b1,b2,b3,b4,b5⟩:=hsp.mem x5 a3
 have r5:=Z46 (Z38 hs h0 b1 b2) b3
 rw [<- b4,<- b5] at r5
 unfold ZI at r5
 unfold Z0V
 rw [cond_false]
 simp only
 rw [a1]
 simp only [Y0]
 rw [Z3 (x:=t-x5.place.first) (by omega),Z49 (by unfold In64;omega) (by unfold In64;omega),Z6L hper]
 simp only [Y0]
 have qb:=ZDf hper (n:=t-x5.place.first) (by omega)
 have qm:=Y06 (t-x5.place.first) g.Period
 have q0:=Yt (t-x5.place.first) (show g.Period≠0 by omega)
 have q1:=Y03 (t-x5.place.first) hper
 generalize (t-x5.place.first) / g.Period=q at *
 have qp : -10995116277760<=q*g.Period/\q*g.Period<=10995116277760:=by rw [Y02];omega
 obtain ⟨r,s1,s2,s3,s4,s5⟩:=ZBj (n:=(sp.length:Int)) (by omega) (by omega)
  (f:=λz0=>Z2G z0 ⟨g,sp⟩ q t) (p:=λz=>match sp[z.toNat]? with|some s=>decide (s.place.first+q*g.Period>t)|none=>true) (by
   intro z z0 z1;obtain ⟨x,e1,e2,e3⟩:=at?_get (l:=sp) z0 z1;obtain ⟨c1,c2,c3,c4,c5⟩:=hsp.mem x e3;have rx:=Z46 (Z38 hs h0 c1 c2) c3;rw [<- c4,<- c5] at rx;unfold ZI at rx;unfold Z2G;simp only;rw [e1,e2];simp only [Y0];rw [Z3 (x:=q*g.Period) (by omega),Z3 (by omega)]) (by
   intro a b a0 hab hb hp;obtain ⟨x,e1,e2,e3⟩:=at?_get (l:=sp) a0 (by omega)
   obtain ⟨y,f1,f2,f3⟩:=at?_get (l:=sp) (show 0<=b by omega) hb
   simp only [e2,f2,decide_eq_true_eq] at hp ⊢
   by_cases hne:a=b
   ·subst hne;rw [e2] at f2;cases f2;exact hp
   ·have hlt:=Z68 hsp e2 f2 (by omega)
    obtain ⟨c1,c2,c3,c4,c5⟩:=hsp.mem x e3;obtain ⟨d1,d2,d3,d4,d5⟩:=hsp.mem y f3;have o1:=Z6d hs h.turns h0 hlt c3 d3;have o2:=Z1c (Z38 hs h0 c1 c2) c3;omega)
 rw [s1]
 simp only [Y0]
 have r1:1<=r:=by
  by_cases hr:1<=r
  ·exact hr
  ·have:r=0:=by omega
   subst this;have:=s5 0 (by omega) (by omega)
   rw [show (0:Int).toNat=0 from rfl] at this;rw [show (0:Int).toNat=0 from rfl] at a2;simp only [a2,decide_eq_true_eq] at this;rw [Y02] at this;omega
 rw [Z3 (x:=r-1) (by omega)]
 obtain ⟨x8,e1,e2,e3⟩:=at?_get (l:=sp) (i:=r-1) (by omega) (by omega)
 rw [e1]
 simp only [Y0]
 obtain ⟨c1,c2,c3,c4,c5⟩:=hsp.mem x8 e3
 have hqc:=ZDh qb (c:=g.Count) (by omega)
 rw [Z3 (x:=q*g.Count) (by omega),Z3 (by omega)]
 refine ⟨_,rfl,⟨?_,?_,?_⟩,by omega,by omega⟩
 ·rw [Y02 q,Z5x h0];simpa using c3
 ·rw [Y02 q,Z5x h0,(Z0Z _ c3).2,<- c4];have:=s4 (r-1) (by omega) (by omega)
  simp only [e2,decide_eq_false_iff_not] at this;omega
 ·intro k hk hkn;obtain ⟨j,q',j0,j1,rfl,ek⟩:=Z4P h0 k;rw [ek] at hkn ⊢;have hjn:cs g j≠[]:=λh=>hkn (by rw [h];rfl)
  rw [(Z0Z _ hjn).2];obtain ⟨y,y1,rfl⟩:=hsp.all j j0 j1 hjn;obtain ⟨d1,d2,d3,d4,d5⟩:=hsp.mem y y1;obtain ⟨z,hz⟩:=YC y1;have hz2:=(List.getElem?_eq_some_iff.1 hz).1;have fy:x5.place.first<=y.place.first:=by
   by_cases hz0:z=0
   ·subst hz0;rw [show (0:Int).toNat=0 from rfl] at a2;rw [a2] at hz;cases hz;exact Yi _
   ·have hlt:=Z68 hsp a2 hz (by omega)
    have o1:=Z6d hs h.turns h0 hlt b3 d3;have o2:=Z1c (Z38 hs h0 b1 b2) b3;omega
  rw [<- d4]
  by_cases hqq:q'<=q
  ·have hqe:q'=q:=by
    by_cases h':q'=q
    ·exact h'
    ·have:g.Count*(q'+1)<=g.Count*q:=YT (by omega) (by omega)
     rw [Y0m,Int.mul_one] at this;rw [Y02 q] at hk;omega
   subst hqe;rw [Y02 q'] at hk;have hyi:x8.index<y.index:=by omega
   have hzr:r<=(z:Int):=by
    by_cases h':r<=(z:Int)
    ·exact h'
    ·by_cases h'':z=(r-1).toNat
     ·subst h'';rw [e2] at hz;cases hz;omega
     ·have:=Z68 hsp hz e2 (by omega);omega
   have:=s5 z hzr (by omega)
   rw [YH] at this;simp only [hz,decide_eq_true_eq] at this;omega
  ·have:g.Period*(q+1)<=g.Period*q':=YT (by omega) (by omega)
   rw [Y0m,Int.mul_one] at this;rw [Y02 q'];omega
end Go.Dn

namespace Go.Dn
open Go
theorem ZDB {g:Form} (h:Fit g) (h0:0<g.Count) {sp:List size_spot} (hsp:Spots g sp) (hn:sp≠[]) (hln:sp.length<=12) {t:Int} (ht:BigT t) :
  ∃ i,Z0V ⟨g,sp⟩ t true=some i/\FirstC g t i/\-211106232532992<=i/\i<=211106232532992:=by
 unfold BigT at ht
 have hs:=h.shape
 have hper:=h.per h0
 have hper2:=hs.per
 have hcnt:=hs.count
 have hfew:=h.few
 have hlen:0<sp.length:=List.length_pos_iff.2 hn
 obtain ⟨x5,a1,a2,a3⟩:=at?_get (l:=sp) (i:=(sp.length:Int)-1) (by omega) (by omega)
 obtain ⟨b1,b2,b3,b4,b5⟩:=hsp.mem x5 a3
 have r5:=Z46 (Z38 hs h0 b1 b2) b3
 rw [<- b4,<- b5] at r5
 unfold ZI at r5
 unfold Z0V
 rw [cond_true]
 simp only
 rw [Z3 (x:=(sp.length:Int)-1) (by omega),a1]
 simp only [Y0]
 rw [Z3 (x:=x5.place.last-t) (by omega),Z49 (by unfold In64;omega) (by unfold In64;omega),Z6L hper]
 simp only [Y0]
 have qb:=ZDf hper (n:=x5.place.last-t) (by omega)
 have qm:=Y06 (x5.place.last-t) g.Period
 have q0:=Yt (x5.place.last-t) (show g.Period≠0 by omega)
 have q1:=Y03 (x5.place.last-t) hper
 generalize (x5.place.last-t) / g.Period=q at *
 have qp : -10995116277760<=q*g.Period/\q*g.Period<=10995116277760:=by rw [Y02];omega
 obtain ⟨r,s1,s2,s3,s4,s5⟩:=ZBj (n:=(sp.length:Int)) (by omega) (by omega)
  (f:=λz0=>Z2K z0 ⟨g,sp⟩ q t) (p:=λz=>match sp[z.toNat]? with|some s=>decide (s.place.last-q*g.Period>=t)|none=>true) (by
   intro z z0 z1;obtain ⟨x,e1,e2,e3⟩:=at?_get (l:=sp) z0 z1;obtain ⟨c1,c2,c3,c4,c5⟩:=hsp.mem x e3;have rx:=Z46 (Z38 hs h0 c1 c2) c3;rw [<- c4,<- c5] at rx;unfold ZI at rx;unfold Z2K;simp only;rw [e1,e2];simp only [Y0];rw [Z3 (x:=q*g.Period) (by omega),Z3 (by omega)]) (by
   intro a b a0 hab hb hp;obtain ⟨x,e1,e2,e3⟩:=at?_get (l:=sp) a0 (by omega)
   obtain ⟨y,f1,f2,f3⟩:=at?_get (l:=sp) (show 0<=b by omega) hb
   simp only [e2,f2,decide_eq_true_eq] at hp ⊢
   by_cases hne:a=b
   ·subst hne;rw [e2] at f2;cases f2;exact hp
   ·have hlt:=Z68 hsp e2 f2 (by omega)
    obtain ⟨c1,c2,c3,c4,c5⟩:=hsp.mem x e3;obtain ⟨d1,d2,d3,d4,d5⟩:=hsp.mem y f3;have o1:=Z6d hs h.turns h0 hlt c3 d3;have o2:=Z1c (Z38 hs h0 d1 d2) d3;omega)
 rw [s1]
 simp only [Y0]
 have r1:r<sp.length:=by
  by_cases hr:r<sp.length
  ·exact hr
  ·have:=s4 ((sp.length:Int)-1) (by omega) (by omega)
   simp only [a2,decide_eq_false_iff_not] at this;rw [Y02] at this;omega
 obtain ⟨x8,e1,e2,e3⟩:=at?_get (l:=sp) (i:=r) (by omega) (by omega)
 rw [e1]
 simp only [Y0]
 obtain ⟨c1,c2,c3,c4,c5⟩:=hsp.mem x8 e3
 have hqc:=ZDh qb (c:=g.Count) (by omega)
 rw [Z3 (x:=q*g.Count) (by omega),Z3 (by omega)]
 have ei:x8.index-q*g.Count=x8.index+g.Count*(-q):=by rw [Int.mul_neg,Y02];omega
 refine ⟨_,rfl,⟨?_,?_,?_⟩,by omega,by omega⟩
 ·rw [ei,Z5x h0];simpa using c3
 ·rw [ei,Z5x h0,(Z0Z _ c3).1,<- c5];have:=s5 r (by omega) (by omega)
  simp only [e2,decide_eq_true_eq] at this;rw [Int.neg_mul];omega
 ·intro k hk hkn;obtain ⟨j,q',j0,j1,rfl,ek⟩:=Z4P h0 k;rw [ek] at hkn ⊢;have hjn:cs g j≠[]:=λh=>hkn (by rw [h];rfl)
  rw [(Z0Z _ hjn).1];obtain ⟨y,y1,rfl⟩:=hsp.all j j0 j1 hjn;obtain ⟨d1,d2,d3,d4,d5⟩:=hsp.mem y y1;obtain ⟨z,hz⟩:=YC y1;have hz2:=(List.getElem?_eq_some_iff.1 hz).1;have fy:y.place.last<=x5.place.last:=by
   by_cases hz0:z=((sp.length:Int)-1).toNat
   ·subst hz0;rw [a2] at hz;cases hz;exact Yi _
   ·have hlt:=Z68 hsp hz a2 (by omega)
    have o1:=Z6d hs h.turns h0 hlt d3 b3;have o2:=Z1c (Z38 hs h0 b1 b2) b3;omega
  rw [<- d5]
  by_cases hqq : -q<=q'
  ·have hqe:q' = -q:=by
    by_cases h':q' = -q
    ·exact h'
    ·have:g.Count*(-q+1)<=g.Count*q':=YT (by omega) (by omega)
     rw [Y0m,Int.mul_one] at this;rw [ei] at hk;omega
   subst hqe;rw [ei] at hk;have hyi:y.index<x8.index:=by omega
   have hzr:(z:Int)<r:=by
    by_cases h':(z:Int)<r
    ·exact h'
    ·by_cases h'':z=r.toNat
     ·subst h'';rw [e2] at hz;cases hz;omega
     ·have:=Z68 hsp e2 hz (by omega);omega
   have:=s4 z (by omega) hzr
   rw [YH] at this;simp only [hz,decide_eq_false_iff_not] at this;rw [Int.neg_mul];omega
  ·have:g.Period*q'<=g.Period*(-q-1):=YT (by omega) (by omega)
   rw [Int.mul_sub,Int.mul_one,Int.mul_neg] at this;rw [Y02 q'];omega
def putB (b:Int×Bool) (n:Int):Int×Bool:=if b.2=false\/n>b.1 then (n,true) else b
structure Best (S:Int->Prop) (b:Int×Bool):Prop where
 yes:b.2=true->S b.1/\∀ n,S n->n<=b.1
 no:b.2=false->b.1=0/\∀ n,¬ S n
theorem Best.put {S S':Int->Prop} {b:Int×Bool} {n:Int} (h:Best S b) (hS:∀ m,S' m↔S m\/m=n):Best S' (putB b n):=by
 unfold putB
 split
 ·rename_i hc;refine ⟨λ_=>⟨(hS n).2 (.inr rfl),λm hm=>?_⟩,λh=>by cases h⟩
  rcases (hS m).1 hm with h1|h1
  ·cases hb:b.2 with
   | false=>exact absurd h1 ((h.no hb).2 m)
   | true=>
    have:=(h.yes hb).2 m h1;rcases hc with h2|h2
    ·rw [hb] at h2;cases h2
    ·simp only;omega
  ·subst h1;exact Yi _
 ·rename_i hc;have hb:b.2=true:=by cases hb:b.2<;>simp_all
  refine ⟨λ_=>⟨(hS b.1).2 (.inl (h.yes hb).1),λm hm=>?_⟩,λh=>by rw [hb] at h;cases h⟩
  rcases (hS m).1 hm with h1|h1
  ·exact (h.yes hb).2 m h1
  ·subst h1;have:¬ (m>b.1):=λh=>hc (.inr h);omega
theorem Best.congr {S S':Int->Prop} {b:Int×Bool} (h:Best S b) (hS:∀ m,S' m↔S m):Best S' b :=
 ⟨λhb=>⟨(hS _).2 (h.yes hb).1,λn hn=>(h.yes hb).2 n ((hS n).1 hn)⟩,λhb=>⟨(h.no hb).1,λn hn=>(h.no hb).2 n ((hS n).1 hn)⟩⟩
theorem Best.none {S:Int->Prop} (h:∀ n,¬ S n):Best S (0,false):=⟨λh=>by (cases h),λ_=>⟨rfl,h⟩⟩
theorem Z82 (n b:Int) (c:Bool):loopO (Z6.s1) (([n].length:Int),0,[n],b,c)=some ([n],putB (b,c) n):=by
 rw [Z21]
 have e1:Z6.s1 (([n].length:Int),0,[n],b,c)=some (.inl (([n].length:Int),1,[n],putB (b,c) n)):=by
  unfold Z6.s1;simp only;rw [ZK (show (0:Int)<([n].length:Int) by simp),cond_true,show at? [n] 0=some n from rfl]
  simp only [Y0];unfold putB;cases c with
  | false=>rfl
  | true=>
   by_cases h:n>b
   ·simp only [h,decide_true,Y1D,cond_true,or_true,if_true];rfl
   ·simp only [h,decide_false,YD,Y0X,cond_false,Y0Y,or_self,if_false];rfl
 rw [e1]
 simp only
 rw [Z21]
 have e2:Z6.s1 (([n].length:Int),1,[n],putB (b,c) n)=some (.inr ([n],putB (b,c) n)):=by
  unfold Z6.s1;simp only;rw [ZH (show ¬ (1:Int)<([n].length:Int) by simp),cond_false]
 rw [e2]
theorem Z7m (n b:Int) (c:Bool):loopO (Z6.s3) (([n].length:Int),0,[n],b,c)=some ([n],putB (b,c) n):=by
 rw [Z21]
 have e1:Z6.s3 (([n].length:Int),0,[n],b,c)=some (.inl (([n].length:Int),1,[n],putB (b,c) n)):=by
  unfold Z6.s3;simp only;rw [ZK (show (0:Int)<([n].length:Int) by simp),cond_true,show at? [n] 0=some n from rfl]
  simp only [Y0];unfold putB;cases c with
  | false=>rfl
  | true=>
   by_cases h:n>b
   ·simp only [h,decide_true,Y1D,cond_true,or_true,if_true];rfl
   ·simp only [h,decide_false,YD,Y0X,cond_false,Y0Y,or_self,if_false];rfl
 rw [e1]
 simp only
 rw [Z21]
 have e2:Z6.s3 (([n].length:Int),1,[n],putB (b,c) n)=some (.inr ([n],putB (b,c) n)):=by
  unfold Z6.s3;simp only;rw [ZH (show ¬ (1:Int)<([n].length:Int) by simp),cond_false]
 rw [e2]
theorem ZCZ (n b:Int) (c:Bool):loopO (ZU.s1) (([n].length:Int),0,[n],b,c)=some ([n],putB (b,c) n):=by
 rw [Z21]
 have e1:ZU.s1 (([n].length:Int),0,[n],b,c)=some (.inl (([n].length:Int),1,[n],putB (b,c) n)):=by
  unfold ZU.s1;simp only;rw [ZK (show (0:Int)<([n].length:Int) by simp),cond_true,show at? [n] 0=some n from rfl]
  simp only [Y0];unfold putB;cases c with
  | false=>rfl
  | true=>
   by_cases h:n>b
   ·simp only [h,decide_true,Y1D,cond_true,or_true,if_true];rfl
   ·simp only [h,decide_false,YD,Y0X,cond_false,Y0Y,or_self,if_false];rfl
 rw [e1]
 simp only
 rw [Z21]
 have e2:ZU.s1 (([n].length:Int),1,[n],putB (b,c) n)=some (.inr ([n],putB (b,c) n)):=by
  unfold ZU.s1;simp only;rw [ZH (show ¬ (1:Int)<([n].length:Int) by simp),cond_false]
 rw [e2]
theorem ZCl (n b:Int) (c:Bool):loopO (ZU.s3) (([n].length:Int),0,[n],b,c)=some ([n],putB (b,c) n):=by
 rw [Z21]
 have e1:ZU.s3 (([n].length:Int),0,[n],b,c)=some (.inl (([n].length:Int),1,[n],putB (b,c) n)):=by
  unfold ZU.s3;simp only;rw [ZK (show (0:Int)<([n].length:Int) by simp),cond_true,show at? [n] 0=some n from rfl]
  simp only [Y0];unfold putB;cases c with
  | false=>rfl
  | true=>
   by_cases h:n>b
   ·simp only [h,decide_true,Y1D,cond_true,or_true,if_true];rfl
   ·simp only [h,decide_false,YD,Y0X,cond_false,Y0Y,or_self,if_false];rfl
 rw [e1]
 simp only
 rw [Z21]
 have e2:ZU.s3 (([n].length:Int),1,[n],putB (b,c) n)=some (.inr ([n],putB (b,c) n)):=by
  unfold ZU.s3;simp only;rw [ZH (show ¬ (1:Int)<([n].length:Int) by simp),cond_false]
 rw [e2]
theorem ZCf (n b:Int) (c:Bool):loopO (ZU.s4) (([n].length:Int),0,[n],b,c)=some ([n],putB (b,c) n):=by
 rw [Z21]
 have e1:ZU.s4 (([n].length:Int),0,[n],b,c)=some (.inl (([n].length:Int),1,[n],putB (b,c) n)):=by
  unfold ZU.s4;simp only;rw [ZK (show (0:Int)<([n].length:Int) by simp),cond_true,show at? [n] 0=some n from rfl]
  simp only [Y0];unfold putB;cases c with
  | false=>rfl
  | true=>
   by_cases h:n>b
   ·simp only [h,decide_true,Y1D,cond_true,or_true,if_true];rfl
   ·simp only [h,decide_false,YD,Y0X,cond_false,Y0Y,or_self,if_false];rfl
 rw [e1]
 simp only
 rw [Z21]
 have e2:ZU.s4 (([n].length:Int),1,[n],putB (b,c) n)=some (.inr ([n],putB (b,c) n)):=by
  unfold ZU.s4;simp only;rw [ZH (show ¬ (1:Int)<([n].length:Int) by simp),cond_false]
 rw [e2]
end Go.Dn

namespace Go.Dn
open Go
theorem size_odd_eq {g:Form} {sp:List size_spot} (hl:Lim g) (hs:Shape g) (i:Int):∃ n,Z2s ⟨g,sp⟩ i=some n/\(0<=n↔Zt g i):=by
 obtain ⟨p,h1,h2,h3⟩:=ZDW (t:=i) hl.odd hs.inc
 have e:Z2 g.Odd i (λz0 z1=>some (Z3P z0 z1))=some ((p:Int),decide (∃ x,g.Odd[p]? = some x/\x.Index=i)):=h3
 unfold Z2s
 simp only
 rw [e]
 simp only [Y0]
 by_cases hx:∃ x,g.Odd[p]? = some x/\x.Index=i
 ·rw [ZK hx];refine ⟨(p:Int),rfl,λ_=>?_,λ_=>by omega⟩
  obtain ⟨x,e1,e2⟩:=hx;exact ⟨x,Y7 e1,e2⟩
 ·rw [ZH hx];refine ⟨-1,rfl,λh=>by omega,?_⟩
  rintro ⟨x,hx1,hx2⟩;obtain ⟨k,hk⟩:=YC hx1
  exfalso
  have hkp:=h2 k x hk
  by_cases hkk:k=p
  ·subst hkk;exact hx ⟨x,hk,hx2⟩
  ·have:p<k:=by omega
   have hlt:=(List.getElem?_eq_some_iff.1 hk).1;have hp:g.Odd[p]? = some (g.Odd[p]'(by omega)):=Y2 (by omega)
   have q1:=h2 p _ hp;have q2:=hs.inc p k _ x this hp hk;omega
theorem has_eq {g:Form} {sp:List size_spot} (hl:Lim g) (hs:Shape g) (h0:0<g.Count) {i:Int} (hi:In64 i):Z3T ⟨g,sp⟩ i=some (decide (cs g i≠[])):=by
 unfold Z3T
 simp only
 rw [Z49 hi hl.count,Z6L h0]
 simp only [Y0]
 rw [(Z1x hs (by omega) i).1]
 simp only [Y0,Y5,decide_eq_decide]
 unfold cs
 rw [ne_eq,List.map_eq_nil_iff]
 constructor
 ·intro h hn;rw [hn] at h;simp at h
 ·intro h;have:=List.length_pos_iff.2 h;omega
theorem Z1m {g:Form} (h0:0<g.Count) {i:Int} (h:¬ Zt g i):Z9 g i=cs g i:=by rw [Z6B h,Z5u h0]
def byU (up:Bool):Int:=if up then 1 else -1
def sgU (up:Bool):Int:=if up then -1 else 1
theorem sg_w (up:Bool) {x:Int} (h : -4611686018427387904<=x/\x<=4611686018427387904):w64 (w64 (0-byU up)*x)=sgU up*x:=by
 cases up
 ·show w64 (w64 (0-(-1))*x)=1*x;rw [show w64 (0-(-1))=1 from rfl,Z3 (by omega)]
 ·show w64 (w64 (0-1)*x) = -1*x;rw [show w64 (0-1) = -1 from rfl,Z3 (by omega)]
open Classical in
theorem walk_eq {g:Form} {sp:List size_spot} (h:Fit g) (h0:0<g.Count) (hb:¬ Bare g) (up:Bool) {i0:Int} (hi : -211106232532992<=i0/\i0<=211106232532992) :
  ∃ i,loopO (Z6.s0 ⟨g,sp⟩ (byU up)) i0=some i/\¬ Zt g i/\cs g i≠[]/\(if up then i0<=i else i<=i0)/\-211106232533992<=i/\i<=211106232533992 /\
   ∀ k,(if up then i0<=k/\k<i else i<k/\k<=i0)->Zt g k\/cs g k=[]:=by
 have hs:=h.shape
 have hcnt:=hs.count
 have hfew:=h.few
 obtain ⟨j,j1,j2,j3,j4⟩:=free_core hs hb h0 h.odds (if up then i0 else i0-g.Count*9+1)
 rw [Z1m h0 j3] at j4
 have hj:if up then i0<=j/\j<i0+108 else j<=i0/\i0<j+108:=by
  cases up
  ·simp only [Y6,if_false] at j1 j2 ⊢;omega
  ·simp only [if_true] at j1 j2 ⊢;omega
 obtain ⟨r,q1,q2⟩:=Z0R (step:=Z6.s0 ⟨g,sp⟩ (byU up))
  (λi=>(if up then i0<=i/\i<=j else j<=i/\i<=i0)/\∀ k,(if up then i0<=k/\k<i else i<k/\k<=i0)->Zt g k\/cs g k=[])
  (λi=>(if up then j-i else i-j).toNat)
  (λi=>(if up then i0<=i/\i<=j else j<=i/\i<=i0)/\¬ Zt g i/\cs g i≠[]/\∀ k,(if up then i0<=k/\k<i else i<k/\k<=i0)->Zt g k\/cs g k=[]) (by
   rintro i ⟨a1,a2⟩;have hi64 : -211106232533992<=i/\i<=211106232533992:=by
    cases up
    ·simp only [Y6,if_false] at a1 hj;omega
    ·simp only [if_true] at a1 hj;omega
   unfold Z6.s0;obtain ⟨n,n1,n2⟩:=size_odd_eq (sp:=sp) h.lim hs i;rw [n1];simp only [Y0];rw [has_eq h.lim hs h0 (by unfold In64;omega)]
   simp only [Y0];have hc:(bif decide (n>=0) then some true else some (!decide (cs g i≠[])))=some (decide (Zt g i\/cs g i=[])):=by
    by_cases ho:Zt g i
    ·rw [ZK (n2.2 ho),cond_true,ZK (.inl ho)]
    ·rw [ZH (p:=n>=0) (λh=>ho (n2.1 h)),cond_false]
     by_cases he:cs g i=[]
     ·rw [ZK (p:=Zt g i\/cs g i=[]) (.inr he),ZH (p:=cs g i≠[]) (λh=>h he)];rfl
     ·rw [ZH (p:=Zt g i\/cs g i=[]) (λh=>h.elim ho he),ZK (p:=cs g i≠[]) he];rfl
   rw [hc];simp only [Y0]
   by_cases hk:Zt g i\/cs g i=[]
   ·left
    rw [ZK hk,cond_true];have hij:i≠j:=by
     rintro rfl;exact hk.elim j3 j4
    have hw:w64 (i+byU up)=i+byU up:=Z3 (by unfold byU;cases up<;>simp<;>omega)
    rw [hw];refine ⟨_,rfl,⟨?_,?_⟩,?_⟩
    ·unfold byU;cases up
     ·simp only [Y6,if_false] at a1 ⊢;omega
     ·simp only [if_true] at a1 ⊢;omega
    ·intro k hkk
     by_cases hki:k=i
     ·subst hki;exact hk
     ·apply a2;unfold byU at hkk;cases up
      ·simp only [Y6,if_false] at hkk ⊢;omega
      ·simp only [if_true] at hkk ⊢;omega
    ·unfold byU;cases up
     ·simp only [Y6,if_false] at a1 ⊢;omega
     ·simp only [if_true] at a1 ⊢;omega
   ·right
    rw [ZH hk,cond_false];exact ⟨_,rfl,a1,λho=>hk (.inl ho),λhe=>hk (.inr he),a2⟩) i0 ⟨by
     cases up
     ·simp only [Y6,if_false] at hj ⊢;omega
     ·simp only [if_true] at hj ⊢;omega,λk hk=>by
     cases up
     ·simp only [Y6,if_false] at hk;omega
     ·simp only [if_true] at hk;omega⟩
 refine ⟨r,q1,q2.2.1,q2.2.2.1,?_,?_,?_,q2.2.2.2⟩<;>have:=q2.1<;>cases up<;>simp only [Y6,if_false,if_true] at this hj ⊢<;>omega
def AtP (g:Form) (up:Bool) (t i:Int):Prop:=Z9 g i≠[]/\(if up then t<=lstT (Z9 g i) else fstT (Z9 g i)<=t)
theorem hull_cond {l:List Span} {up:Bool} {t:Int} (hl:Len l):∃ x:Span×Bool,Z1f l=some x/\(x.2&&((up&&(decide (x.1.To>=t)))||((!up)&&(decide (x.1.From<=t)))))=decide (l≠[]/\(if up then t<=lstT l else fstT l<=t)):=by
 refine ⟨_,hull_eq hl,?_⟩
 by_cases h:l=[]
 ·rw [if_pos h];simp [h]
 ·rw [if_neg h];cases up<;>simp [h]
open Classical in
theorem reach_loop {g:Form} {sp:List size_spot} (h:Fit g) (up:Bool) (t:Int) {b:Int×Bool} {S:Int->Prop} (hB:Best S b) :
  ∃ r,loopO (Z6.s2 ⟨g,sp⟩ t up (byU up)) (0,b.1,b.2)=some r/\Best (λm=>S m\/∃ i,Zt g i/\AtP g up t i/\m=sgU up*i) r:=by
 have hs:=h.shape
 have hl:=h.lim
 have hodd:=h.odds
 obtain ⟨r,q1,q2⟩:=Z0R (step:=Z6.s2 ⟨g,sp⟩ t up (byU up))
  (λs=>∃ (k:Nat) (c:Int×Bool),k<=g.Odd.length/\s=((k:Int),c.1,c.2)/\Best (λm=>S m\/∃ x∈g.Odd.take k,AtP g up t x.Index/\m=sgU up*x.Index) c)
  (λs=>g.Odd.length-s.1.toNat)
  (λr=>Best (λm=>S m\/∃ i,Zt g i/\AtP g up t i/\m=sgU up*i) r) (by
   rintro s ⟨k,c,hk,rfl,hc⟩;unfold Z6.s2;simp only
   by_cases hlt:k<g.Odd.length
   ·left
    have hm:=YE hlt;have htk:g.Odd.take (k+1)=g.Odd.take k++[g.Odd[k]]:=(Yd hlt).symm;rw [ZK (show (k:Int)<g.Odd.length by omega),cond_true,at?_nat hlt]
    simp only [Y0];obtain ⟨x,x1,x2⟩:=hull_cond (l:=g.Odd[k].Ticks) (up:=up) (t:=t) (hl.ticks _ hm).2.1;rw [x1];simp only [Y0];rw [x2];have hset:Z9 g g.Odd[k].Index=g.Odd[k].Ticks:=Z1T hs.inc hm;have hat:(g.Odd[k].Ticks≠[]/\(if up then t<=lstT g.Odd[k].Ticks else fstT g.Odd[k].Ticks<=t))↔AtP g up t g.Odd[k].Index:=by unfold AtP;rw [hset]
    have ht:=(hs.odd _ hm).2;unfold ZI at ht
    by_cases hcnd:AtP g up t g.Odd[k].Index
    ·rw [ZK (hat.2 hcnd),cond_true];have hw:w64 (w64 (0-byU up)*g.Odd[k].Index)=sgU up*g.Odd[k].Index:=sg_w up (by omega)
     rw [hw,Z7m];simp only [Y0];rw [Z3 (by omega)]
     refine ⟨_,rfl,⟨k+1,putB c (sgU up*g.Odd[k].Index),hlt,by push_cast;rfl,?_⟩,by simp only;omega⟩
     refine hc.put λm=>?_;rw [htk]
     constructor
     ·rintro (h1|⟨y,hy,h1,h2⟩)
      ·exact .inl (.inl h1)
      ·rcases List.mem_append.1 hy with h3|h3
       ·exact .inl (.inr ⟨y,h3,h1,h2⟩)
       ·rw [YM] at h3;subst h3;exact .inr h2
     ·rintro ((h1|⟨y,hy,h1,h2⟩)|h1)
      ·exact .inl h1
      ·exact .inr ⟨y,Yj _ hy,h1,h2⟩
      ·exact .inr ⟨_,Yq _ (List.mem_singleton.2 rfl),hcnd,h1⟩
    ·rw [ZH (λh=>hcnd (hat.1 h)),cond_false];simp only [Y0];rw [Z3 (by omega)]
     refine ⟨_,rfl,⟨k+1,c,hlt,by push_cast;rfl,?_⟩,by simp only;omega⟩
     refine hc.congr λm=>?_;rw [htk]
     constructor
     ·rintro (h1|⟨y,hy,h1,h2⟩)
      ·exact .inl h1
      ·rcases List.mem_append.1 hy with h3|h3
       ·exact .inr ⟨y,h3,h1,h2⟩
       ·rw [YM] at h3;subst h3;exact absurd h1 hcnd
     ·rintro (h1|⟨y,hy,h1,h2⟩)
      ·exact .inl h1
      ·exact .inr ⟨y,Yj _ hy,h1,h2⟩
   ·right
    obtain rfl:k=g.Odd.length:=by omega
    rw [ZH (by omega),cond_false]
    rw [Yl] at hc;refine ⟨_,rfl,hc.congr λm=>?_⟩
    constructor
    ·rintro (h1|⟨i,⟨x,hx,rfl⟩,h1,h2⟩)
     ·exact .inl h1
     ·exact .inr ⟨x,hx,h1,h2⟩
    ·rintro (h1|⟨x,hx,h1,h2⟩)
     ·exact .inl h1
     ·exact .inr ⟨_,⟨x,hx,rfl⟩,h1,h2⟩) (0,b.1,b.2) ⟨0,b,YI _,rfl,hB.congr λm=>by simp⟩
 exact ⟨r,q1,q2⟩
theorem spots_ne {g:Form} (hs:Shape g) (h0:0<g.Count) (hb:¬ Bare g):Z2T g≠[]:=by
 obtain ⟨i,i1,i2,i3⟩:=cs_some hs hb h0 0
 obtain ⟨s,s1,s2⟩:=(spots_ok hs).all i i1 (by omega) i3
 exact Y19 s1
theorem sg_sg (up:Bool) (n:Int):sgU up*(sgU up*n)=n:=by unfold sgU;cases up<;>simp
theorem ZD5 {g:Form} (h:Fit g) (hb:0<g.Count->¬ Bare g) {t:Int} (ht:BigT t) (up:Bool) :
  ∃ n b,Z6 ⟨g,Z2T g⟩ t up=some (n,b)/\Best (λm=>∃ i,AtP g up t i/\m=sgU up*i) (sgU up*n,b)/\-300000000000000<=n/\n<=300000000000000:=by
 have hs:=h.shape
 have hby:(bif up then some (1:Int) else some (-1))=some (byU up):=by unfold byU;cases up<;>rfl
 unfold Z6
 rw [hby]
 simp only [Y0]
 have key:∃ b:Int×Bool,(bif (decide (g.Count>0)) then
   (Z0V ⟨g,Z2T g⟩ t up).bind λx1=>
   (loopO (Z6.s0 ⟨g,Z2T g⟩ (byU up)) x1).bind λ(y3:Int)=>
   (
    (loopO (Z6.s1) (([(w64 ((w64 (0-(byU up)))*y3))].length:Int),0,[(w64 ((w64 (0-(byU up)))*y3))],0,false)).bind λ(y6:(List Int)×Int×Bool)=>
    some (y6.1,y6.2.1,y6.2.2)).bind λ(y5:(List Int)×Int×Bool)=>
   some (y5.2.1,y5.2.2)
  else
   some (0,false))=some b/\Best (λm=>∃ i,¬ Zt g i/\AtP g up t i/\m=sgU up*i) b/\(b.2=true->-211106232533992<=b.1/\b.1<=211106232533992):=by
  by_cases h0:0<g.Count
  ·rw [ZK h0,cond_true];have hsp:=spots_ok hs;have hn:=spots_ne hs h0 (hb h0);have hln:(Z2T g).length<=12:=Ya (Z90 g _) h.few;have hcore:∃ i0,Z0V ⟨g,Z2T g⟩ t up=some i0/\(if up then FirstC g t i0 else LastC g t i0)/\-211106232532992<=i0/\i0<=211106232532992:=by
    cases up
    ·obtain ⟨i,e1,e2,e3⟩:=ZAx h h0 hsp hn hln ht;exact ⟨i,e1,by simpa using e2,e3⟩
    ·obtain ⟨i,e1,e2,e3⟩:=ZDB h h0 hsp hn hln ht;exact ⟨i,e1,by simpa using e2,e3⟩
   obtain ⟨i0,c1,c2,c3⟩:=hcore;obtain ⟨i,w1,w2,w3,w4,w5,w6,w7⟩:=walk_eq (sp:=Z2T g) h h0 (hb h0) up c3;rw [c1];simp only [Y0];rw [w1];simp only [Y0];have hw:w64 (w64 (0-byU up)*i)=sgU up*i:=sg_w up (by omega)
   rw [hw,Z82];simp only [Y0];refine ⟨_,rfl,?_,?_⟩
   ·show Best _ (sgU up*i,true);refine ⟨λ_=>⟨⟨i,w2,?_,rfl⟩,?_⟩,λh=>by cases h⟩
    ·unfold AtP;rw [Z1m h0 w2];refine ⟨w3,?_⟩;cases up
     ·simp only [Y6,if_false] at c2 w4 ⊢
      by_cases hii:i=i0
      ·rw [hii];exact c2.2.1
      ·have o1:=Z6d hs h.turns h0 (show i<i0 by omega) w3 c2.1
       obtain ⟨j,q,j0,j1,jk,ej⟩:=Z4P h0 i;have hjn:cs g j≠[]:=λhh=>w3 (by rw [ej,hh];rfl)
       have o2:=Z1c (Z38 hs h0 j0 j1) hjn;have o3:=Z0Z (q*g.Period) hjn;rw [<- ej] at o3;have:=c2.2.1;omega
     ·simp only [if_true] at c2 w4 ⊢
      by_cases hii:i=i0
      ·rw [hii];exact c2.2.1
      ·have o1:=Z6d hs h.turns h0 (show i0<i by omega) c2.1 w3
       obtain ⟨j,q,j0,j1,jk,ej⟩:=Z4P h0 i;have hjn:cs g j≠[]:=λhh=>w3 (by rw [ej,hh];rfl)
       have o2:=Z1c (Z38 hs h0 j0 j1) hjn;have o3:=Z0Z (q*g.Period) hjn;rw [<- ej] at o3;have:=c2.2.1;omega
    ·rintro m ⟨k,k1,k2,rfl⟩;unfold AtP at k2;rw [Z1m h0 k1] at k2;cases up
     ·simp only [Y6,if_false,sgU] at c2 w7 k2 ⊢
      by_cases hki:k<=i
      ·omega
      ·exfalso
       by_cases hk0:k<=i0
       ·rcases w7 k ⟨by omega,hk0⟩ with h1|h1
        ·exact k1 h1
        ·exact k2.1 h1
       ·have:=c2.2.2 k (by omega) k2.1
        omega
     ·simp only [if_true,sgU] at c2 w7 k2 ⊢
      by_cases hki:i<=k
      ·omega
      ·exfalso
       by_cases hk0:i0<=k
       ·rcases w7 k ⟨hk0,by omega⟩ with h1|h1
        ·exact k1 h1
        ·exact k2.1 h1
       ·have:=c2.2.2 k (by omega) k2.1
        omega
   ·intro _;show -211106232533992<=sgU up*i/\sgU up*i<=211106232533992;unfold sgU;cases up<;>simp only [Y6,if_false,if_true]<;>omega
  ·rw [ZH h0,cond_false];refine ⟨_,rfl,Best.none ?_,λh=>by cases h⟩
   rintro n ⟨i,i1,i2,rfl⟩;exact i2.1 (Z1e i1 (by have:=hs.count;omega))
 obtain ⟨b,k1,k2,k3⟩:=key
 rw [k1]
 simp only [Y0]
 obtain ⟨r,r1,r2⟩:=reach_loop (sp:=Z2T g) h up t k2
 rw [r1]
 simp only [Y0]
 have hB:Best (λm=>∃ i,AtP g up t i/\m=sgU up*i) r:=r2.congr λm=>by
  constructor
  ·rintro ⟨i,i1,i2⟩
   by_cases ho:Zt g i
   ·exact .inr ⟨i,ho,i1,i2⟩
   ·exact .inl ⟨i,ho,i1,i2⟩
  ·rintro (⟨i,i1,i2,i3⟩|⟨i,i1,i2,i3⟩)
   ·exact ⟨i,i2,i3⟩
   ·exact ⟨i,i2,i3⟩
 have hrb : -211106232533992<=r.1/\r.1<=211106232533992:=by
  cases hr:r.2 with
  | false=>have:=(r2.no hr).1;omega
  | true=>
   rcases (r2.yes hr).1 with h1|⟨i,⟨x,hx,rfl⟩,i2,i3⟩
   ·cases hbb:b.2 with
    | false=>exact absurd h1 ((k2.no hbb).2 _)
    | true=>
     have e1:=(k2.yes hbb).2 _ h1;have e2:=(r2.yes hr).2 _ (.inl (k2.yes hbb).1);have:=k3 hbb;omega
   ·have:=(hs.odd x hx).2;unfold ZI at this;rw [i3];unfold sgU;cases up<;>simp only [Y6,if_false,if_true]<;>omega
 have hw:w64 (w64 (0-byU up)*r.1)=sgU up*r.1:=sg_w up (by omega)
 rw [hw]
 refine ⟨sgU up*r.1,r.2,rfl,?_,?_⟩
 ·rw [sg_sg];exact hB
 ·unfold sgU;cases up<;>simp only [Y6,if_false,if_true]<;>omega
end Go.Dn

namespace Go.Dn
open Go
def CoreP (g:Form) (up:Bool) (d i j:Int):Prop:=cs g i≠[]/\cs g j≠[]/\(if up then d<=lstT (cs g j)-fstT (cs g i) else fstT (cs g j)-lstT (cs g i)<=d)
def Z1h (g:Form) (up:Bool) (d i j:Int):Prop:=Z9 g i≠[]/\Z9 g j≠[]/\(if up then d<=lstT (Z9 g j)-fstT (Z9 g i) else fstT (Z9 g j)-lstT (Z9 g i)<=d)
def BigI (n:Int):Prop:=-600000000000000<=n/\n<=600000000000000
theorem putB_big {b:Int×Bool} {n:Int} (hb:BigI b.1) (hn:BigI n):BigI (putB b n).1:=by
 unfold putB;split
 ·exact hn
 ·exact hb
theorem sg_big {up:Bool} {n:Int} (h:BigI n):BigI (sgU up*n):=by unfold BigI sgU at *;cases up<;>simp<;>omega
theorem Best.join {S W S':Int->Prop} {b:Int×Bool} {m0:Int} (h:Best S b) (hm:W m0) (hall:∀ n,W n->n<=m0) (hS:∀ m,S' m↔S m\/W m):Best S' (putB b m0):=by
 have h1:=h.put (S':=λm=>S m\/m=m0) (n:=m0) (λm=>Iff.rfl)
 refine ⟨λhb=>⟨(hS _).2 ?_,λn hn=>?_⟩,λhb=>⟨(h1.no hb).1,λn hn=>?_⟩⟩
 ·rcases (h1.yes hb).1 with h2|h2
  ·exact .inl h2
  ·rw [h2];exact .inr hm
 ·rcases (hS n).1 hn with h2|h2
  ·exact (h1.yes hb).2 n (.inl h2)
  ·exact Int.le_trans (hall n h2) ((h1.yes hb).2 m0 (.inr rfl))
 ·exact (h1.no hb).2 m0 (.inr rfl)
theorem sgw2 (up:Bool) {x:Int} (h:BigI x):w64 (sgU up*w64 x)=sgU up*x:=by
 unfold BigI at h
 rw [Z3 (x:=x) (by omega),Z3]
 unfold sgU;cases up<;>simp<;>omega
theorem sg_le {up:Bool} {i n x:Int} (h:sgU up*i<=sgU up*n):sgU up*(i-x)<=sgU up*(n-x):=by rw [Int.mul_sub,Int.mul_sub];omega
theorem far_spots {g:Form} (h:Fit g) (hb:0<g.Count->¬ Bare g) {d:Int} (hd:ZI d) (up:Bool) :
  ∃ r,loopO (ZU.s0 d up ⟨g,Z2T g⟩ (sgU up)) (0,0,false)=some r/\BigI r.1/\Best (λm=>∃ i j,0<=i/\i<g.Count/\CoreP g up d i j/\m=sgU up*(j-i)) r:=by
 have hs:=h.shape
 have hcnt:=hs.count
 have hfew:=h.few
 have hsp:=spots_ok hs
 have hln:(Z2T g).length<=12:=Ya (Z90 g _) h.few
 generalize Z2T g=sp at *
 obtain ⟨r,q1,q2⟩:=Z0R (step:=ZU.s0 d up ⟨g,sp⟩ (sgU up))
  (λs=>∃ (k:Nat) (c:Int×Bool),k<=sp.length/\s=((k:Int),c.1,c.2)/\BigI c.1/\Best (λm=>∃ x∈sp.take k,∃ j,CoreP g up d x.index j/\m=sgU up*(j-x.index)) c)
  (λs=>sp.length-s.1.toNat)
  (λr=>BigI r.1/\Best (λm=>∃ i j,0<=i/\i<g.Count/\CoreP g up d i j/\m=sgU up*(j-i)) r) (by
   rintro s ⟨k,c,hk,rfl,hcb,hc⟩;unfold ZU.s0;simp only
   by_cases hlt:k<sp.length
   ·left
    have hm:=YE hlt;have htk:sp.take (k+1)=sp.take k++[sp[k]]:=(Yd hlt).symm;obtain ⟨b1,b2,b3,b4,b5⟩:=hsp.mem _ hm;have h0:0<g.Count:=by omega
    have rx:=Z46 (Z38 hs h0 b1 b2) b3;rw [<- b4,<- b5] at rx;unfold ZI at rx hd;rw [ZK (show (k:Int)<sp.length by omega),cond_true,at?_nat hlt]
    simp only [Y0];have hy:(bif up then some sp[k].place.first else some sp[k].place.last)=some (if up then sp[k].place.first else sp[k].place.last):=by cases up<;>rfl
    rw [hy];simp only [Y0];have hyb : -1099511627776<=(if up then sp[k].place.first else sp[k].place.last)/\(if up then sp[k].place.first else sp[k].place.last)<=1099511627776:=by split<;>omega
    have hye:(if up then sp[k].place.first else sp[k].place.last)=if up then fstT (cs g sp[k].index) else lstT (cs g sp[k].index):=by rw [b4,b5]
    generalize (if up then sp[k].place.first else sp[k].place.last)=y at *
    rw [Z3 (x:=y+d) (by omega)]
    have hn:sp≠[]:=Y19 hm;have hcore:∃ i0,Z0V ⟨g,sp⟩ (y+d) up=some i0/\(if up then FirstC g (y+d) i0 else LastC g (y+d) i0)/\-211106232532992<=i0/\i0<=211106232532992:=by
     cases up
     ·obtain ⟨i,e1,e2,e3⟩:=ZAx h h0 hsp hn hln (t:=y+d) (by unfold BigT;omega)
      exact ⟨i,e1,by simpa using e2,e3⟩
     ·obtain ⟨i,e1,e2,e3⟩:=ZDB h h0 hsp hn hln (t:=y+d) (by unfold BigT;omega)
      exact ⟨i,e1,by simpa using e2,e3⟩
    obtain ⟨i0,c1,c2,c3⟩:=hcore;rw [c1];simp only [Y0];have hbi:BigI (i0-sp[k].index):=by unfold BigI;omega
    rw [sgw2 up hbi,ZCZ];simp only [Y0];rw [Z3 (by omega)]
    refine ⟨_,rfl,⟨k+1,putB c (sgU up*(i0-sp[k].index)),hlt,by push_cast;rfl,putB_big hcb (sg_big hbi),?_⟩,by simp only;omega⟩
    refine hc.join (W:=λm=>∃ j,CoreP g up d sp[k].index j/\m=sgU up*(j-sp[k].index)) ?_ ?_ ?_
    ·refine ⟨i0,⟨b3,?_⟩,rfl⟩;cases up
     ·simp only [Y6,if_false] at c2 hye ⊢;exact ⟨c2.1,by have:=c2.2.1;omega⟩
     ·simp only [if_true] at c2 hye ⊢;exact ⟨c2.1,by have:=c2.2.1;omega⟩
    ·rintro n ⟨j,j1,rfl⟩;apply sg_le;cases up
     ·simp only [Y6,if_false,sgU] at c2 hye ⊢
      by_cases hji:j<=i0
      ·omega
      ·have:=c2.2.2 j (by omega) j1.2.1
       have j2:=j1.2.2;simp only [Y6,if_false] at j2;omega
     ·simp only [if_true,sgU] at c2 hye ⊢
      by_cases hji:i0<=j
      ·omega
      ·have:=c2.2.2 j (by omega) j1.2.1
       have j2:=j1.2.2;simp only [if_true] at j2;omega
    ·intro m;rw [htk]
     constructor
     ·rintro ⟨x,hx,j,j1,j2⟩;rcases List.mem_append.1 hx with h3|h3
      ·exact .inl ⟨x,h3,j,j1,j2⟩
      ·rw [YM] at h3;subst h3;exact .inr ⟨j,j1,j2⟩
     ·rintro (⟨x,hx,j,j1,j2⟩|⟨j,j1,j2⟩)
      ·exact ⟨x,Yj _ hx,j,j1,j2⟩
      ·exact ⟨_,Yq _ (List.mem_singleton.2 rfl),j,j1,j2⟩
   ·right
    obtain rfl:k=sp.length:=by omega
    rw [ZH (by omega),cond_false]
    rw [Yl] at hc;refine ⟨_,rfl,hcb,hc.congr λm=>?_⟩
    constructor
    ·rintro ⟨i,j,i0,i1,hp,e⟩;obtain ⟨x,hx,rfl⟩:=hsp.all i i0 i1 hp.1;exact ⟨x,hx,j,hp,e⟩
    ·rintro ⟨x,hx,j,hp,e⟩;obtain ⟨b1,b2,_⟩:=hsp.mem x hx;exact ⟨x.index,j,b1,b2,hp,e⟩) (0,0,false) ⟨0,(0,false),YI _,rfl,by unfold BigI;simp,Best.none (by simp)⟩
 exact ⟨r,q1,q2⟩
theorem pair_at {g:Form} {up:Bool} {d i j:Int}:Z1h g up d i j↔Z9 g i≠[]/\AtP g up ((if up then fstT (Z9 g i) else lstT (Z9 g i))+d) j:=by
 unfold Z1h AtP
 cases up
 ·simp only [Y6,if_false];exact ⟨λh=>⟨h.1,h.2.1,by omega⟩,λh=>⟨h.1,h.2.1,by omega⟩⟩
 ·simp only [if_true];exact ⟨λh=>⟨h.1,h.2.1,by omega⟩,λh=>⟨h.1,h.2.1,by omega⟩⟩
theorem pair_to {g:Form} {up:Bool} {d i j:Int}:Z1h g up d i j↔Z9 g j≠[]/\AtP g (!up) ((if up then lstT (Z9 g j) else fstT (Z9 g j))-d) i:=by
 unfold Z1h AtP
 cases up
 ·simp only [Y6,if_false,Yx,if_true];exact ⟨λh=>⟨h.2.1,h.1,by omega⟩,λh=>⟨h.2.1,h.1,by omega⟩⟩
 ·simp only [if_true,YD,Y6,if_false];exact ⟨λh=>⟨h.2.1,h.1,by omega⟩,λh=>⟨h.2.1,h.1,by omega⟩⟩
theorem sg_not (up:Bool) (n:Int):sgU (!up)*n = -(sgU up*n):=by unfold sgU;cases up<;>simp
theorem far_odds {g:Form} (h:Fit g) (hb:0<g.Count->¬ Bare g) {d:Int} (hd:ZI d) (up:Bool) {b:Int×Bool} {S:Int->Prop} (hbb:BigI b.1) (hB:Best S b) :
  ∃ r,loopO (ZU.s2 d up ⟨g,Z2T g⟩ (sgU up)) (0,b.1,b.2)=some r/\BigI r.1/\Best (λm=>S m\/∃ i j,(Zt g i\/Zt g j)/\Z1h g up d i j/\m=sgU up*(j-i)) r:=by
 have hs:=h.shape
 have hl:=h.lim
 have hodd:=h.odds
 obtain ⟨r,q1,q2⟩:=Z0R (step:=ZU.s2 d up ⟨g,Z2T g⟩ (sgU up))
  (λs=>∃ (k:Nat) (c:Int×Bool),k<=g.Odd.length/\s=((k:Int),c.1,c.2)/\BigI c.1/\Best (λm=>S m\/∃ x∈g.Odd.take k,∃ i j,(x.Index=i\/x.Index=j)/\Z1h g up d i j/\m=sgU up*(j-i)) c)
  (λs=>g.Odd.length-s.1.toNat)
  (λr=>BigI r.1/\Best (λm=>S m\/∃ i j,(Zt g i\/Zt g j)/\Z1h g up d i j/\m=sgU up*(j-i)) r) (by
   rintro s ⟨k,c,hk,rfl,hcb,hc⟩;unfold ZU.s2;simp only
   by_cases hlt:k<g.Odd.length
   ·left
    have hm:=YE hlt;have htk:g.Odd.take (k+1)=g.Odd.take k++[g.Odd[k]]:=(Yd hlt).symm;have hset:Z9 g g.Odd[k].Index=g.Odd[k].Ticks:=Z1T hs.inc hm;have hti:=(hs.odd _ hm).2;have hrt:=(hs.odd _ hm).1;rw [ZK (show (k:Int)<g.Odd.length by omega),cond_true,at?_nat hlt]
    simp only [Y0];rw [hull_eq (hl.ticks _ hm).2.1];simp only [Y0]
    by_cases hne:g.Odd[k].Ticks=[]
    ·rw [if_pos hne];simp only [Yx,cond_true,Y0,Jx.elim];rw [Z3 (by omega)]
     refine ⟨_,rfl,⟨k+1,c,hlt,by push_cast;rfl,hcb,?_⟩,by simp only;omega⟩
     refine hc.congr λm=>?_;rw [htk]
     constructor
     ·rintro (h1|⟨x,hx,i,j,h1,h2,h3⟩)
      ·exact .inl h1
      ·rcases List.mem_append.1 hx with h4|h4
       ·exact .inr ⟨x,h4,i,j,h1,h2,h3⟩
       ·rw [YM] at h4;subst h4;rcases h1 with rfl|rfl
        ·exact absurd (hset.trans hne) h2.1
        ·exact absurd (hset.trans hne) h2.2.1
     ·rintro (h1|⟨x,hx,h1⟩)
      ·exact .inl h1
      ·exact .inr ⟨x,Yj _ hx,h1⟩
    ·rw [if_neg hne];have rx:=Z46 hrt hne;unfold ZI at rx hd hti;simp only [YD,cond_false];have hy:(bif up then some (lstT g.Odd[k].Ticks,fstT g.Odd[k].Ticks) else some (fstT g.Odd[k].Ticks,lstT g.Odd[k].Ticks))=some ((if up then lstT g.Odd[k].Ticks else fstT g.Odd[k].Ticks),(if up then fstT g.Odd[k].Ticks else lstT g.Odd[k].Ticks)):=by cases up<;>rfl
     rw [hy];simp only [Y0];have hyb : -1099511627776<=(if up then lstT g.Odd[k].Ticks else fstT g.Odd[k].Ticks)/\(if up then lstT g.Odd[k].Ticks else fstT g.Odd[k].Ticks)<=1099511627776:=by split<;>omega
     have hzb : -1099511627776<=(if up then fstT g.Odd[k].Ticks else lstT g.Odd[k].Ticks)/\(if up then fstT g.Odd[k].Ticks else lstT g.Odd[k].Ticks)<=1099511627776:=by split<;>omega
     have pa:∀ j,Z1h g up d g.Odd[k].Index j↔AtP g up ((if up then fstT g.Odd[k].Ticks else lstT g.Odd[k].Ticks)+d) j:=λj=>by
      rw [pair_at,hset];exact ⟨λh=>h.2,λh=>⟨hne,h⟩⟩
     have pt:∀ i,Z1h g up d i g.Odd[k].Index↔AtP g (!up) ((if up then lstT g.Odd[k].Ticks else fstT g.Odd[k].Ticks)-d) i:=λi=>by
      rw [pair_to,hset];exact ⟨λh=>h.2,λh=>⟨hne,h⟩⟩
     generalize (if up then fstT g.Odd[k].Ticks else lstT g.Odd[k].Ticks)=z at *
     generalize (if up then lstT g.Odd[k].Ticks else fstT g.Odd[k].Ticks)=y at *
     rw [Z3 (x:=z+d) (by omega),Z3 (x:=y-d) (by omega)]
     obtain ⟨n1,p1,r1,t1,u1,v1⟩:=ZD5 h hb (t:=z+d) (by unfold BigT;omega) up
     obtain ⟨n2,p2,r2,t2,u2,v2⟩:=ZD5 h hb (t:=y-d) (by unfold BigT;omega) (!up)
     rw [r1,r2];simp only [Y0];have hb1:BigI (n1-g.Odd[k].Index):=by unfold BigI;omega
     have hb2:BigI (g.Odd[k].Index-n2):=by unfold BigI;omega
     have first:∃ c1:Int×Bool,(bif p1 then
       (
        (loopO (ZU.s3) (([(w64 (sgU up*(w64 (n1-g.Odd[k].Index))))].length:Int),0,[(w64 (sgU up*(w64 (n1-g.Odd[k].Index))))],c.1,c.2)).bind λ(y16:(List Int)×Int×Bool)=>
        some (y16.1,y16.2.1,y16.2.2)).bind λ(y15:(List Int)×Int×Bool)=>
       some (y15.2.1,y15.2.2)
      else
       some (c.1,c.2))=some c1/\BigI c1.1/\Best (λm=>(S m\/∃ x∈g.Odd.take k,∃ i j,(x.Index=i\/x.Index=j)/\Z1h g up d i j/\m=sgU up*(j-i))\/∃ j,Z1h g up d g.Odd[k].Index j/\m=sgU up*(j-g.Odd[k].Index)) c1:=by
      cases hp:p1 with
      | true=>
       subst hp;rw [cond_true,sgw2 up hb1,ZCl];obtain ⟨⟨i,i1,i2⟩,hall⟩:=t1.yes rfl;have ei:i=n1:=by
        have:=congrArg (λx=>sgU up*x) i2;simp only [sg_sg] at this;exact this.symm
       subst ei;refine ⟨_,rfl,putB_big hcb (sg_big hb1),?_⟩;refine hc.join (W:=λm=>∃ j,Z1h g up d g.Odd[k].Index j/\m=sgU up*(j-g.Odd[k].Index)) ⟨i,(pa i).2 i1,rfl⟩ ?_ (λm=>Iff.rfl);rintro n ⟨j,j1,rfl⟩;exact sg_le (hall _ ⟨j,(pa j).1 j1,rfl⟩)
      | false=>
       subst hp;rw [cond_false];refine ⟨_,rfl,hcb,hc.congr λm=>⟨?_,.inl⟩⟩;rintro (h1|⟨j,j1,j2⟩)
       ·exact h1
       ·exact absurd ⟨j,(pa j).1 j1,rfl⟩ ((t1.no rfl).2 (sgU up*j))
     obtain ⟨c1,f1,f2,f3⟩:=first;rw [f1];simp only [Y0];have second:∃ c2:Int×Bool,(bif p2 then
      (
       (loopO (ZU.s4) (([(w64 (sgU up*(w64 (g.Odd[k].Index-n2))))].length:Int),0,[(w64 (sgU up*(w64 (g.Odd[k].Index-n2))))],c1.1,c1.2)).bind λ(y20:(List Int)×Int×Bool)=>
       some (y20.1,y20.2.1,y20.2.2)).bind λ(y19:(List Int)×Int×Bool)=>
      some (Jx.go (y19.2.1,y19.2.2))
     else
      some (Jx.go (c1.1,c1.2)):Option (Jx (Int×Bool) Unit))=some (.go c2)/\BigI c2.1/\Best (λm=>((S m\/∃ x∈g.Odd.take k,∃ i j,(x.Index=i\/x.Index=j)/\Z1h g up d i j/\m=sgU up*(j-i))\/∃ j,Z1h g up d g.Odd[k].Index j/\m=sgU up*(j-g.Odd[k].Index))\/∃ i,Z1h g up d i g.Odd[k].Index/\m=sgU up*(g.Odd[k].Index-i)) c2:=by
      cases hp:p2 with
      | true=>
       subst hp;rw [cond_true,sgw2 up hb2,ZCf];obtain ⟨⟨i,i1,i2⟩,hall⟩:=t2.yes rfl;have ei:i=n2:=by
        have:=congrArg (λx=>sgU (!up)*x) i2;simp only [sg_sg] at this;exact this.symm
       subst ei;refine ⟨_,rfl,putB_big f2 (sg_big hb2),?_⟩;refine f3.join (W:=λm=>∃ i,Z1h g up d i g.Odd[k].Index/\m=sgU up*(g.Odd[k].Index-i)) ⟨i,(pt i).2 i1,rfl⟩ ?_ (λm=>Iff.rfl);rintro n ⟨j,j1,rfl⟩;have:=hall _ ⟨j,(pt j).1 j1,rfl⟩;rw [sg_not,sg_not] at this;rw [Int.mul_sub,Int.mul_sub];omega
      | false=>
       subst hp;rw [cond_false];refine ⟨_,rfl,f2,f3.congr λm=>⟨?_,.inl⟩⟩;rintro (h1|⟨j,j1,j2⟩)
       ·exact h1
       ·exact absurd ⟨j,(pt j).1 j1,rfl⟩ ((t2.no rfl).2 (sgU (!up)*j))
     obtain ⟨c2,g1,g2,g3⟩:=second;rw [g1];simp only [Y0,Jx.elim];rw [Z3 (by omega)]
     refine ⟨_,rfl,⟨k+1,c2,hlt,by push_cast;rfl,g2,?_⟩,by simp only;omega⟩
     refine g3.congr λm=>?_;rw [htk]
     constructor
     ·rintro (h1|⟨x,hx,i,j,h1,h2,h3⟩)
      ·exact .inl (.inl (.inl h1))
      ·rcases List.mem_append.1 hx with h4|h4
       ·exact .inl (.inl (.inr ⟨x,h4,i,j,h1,h2,h3⟩))
       ·rw [YM] at h4;subst h4;rcases h1 with rfl|rfl
        ·exact .inl (.inr ⟨j,h2,h3⟩)
        ·exact .inr ⟨i,h2,h3⟩
     ·rintro (((h1|⟨x,hx,h1⟩)|⟨j,j1,j2⟩)|⟨i,i1,i2⟩)
      ·exact .inl h1
      ·exact .inr ⟨x,Yj _ hx,h1⟩
      ·exact .inr ⟨_,Yq _ (List.mem_singleton.2 rfl),_,j,.inl rfl,j1,j2⟩
      ·exact .inr ⟨_,Yq _ (List.mem_singleton.2 rfl),i,_,.inr rfl,i1,i2⟩
   ·right
    obtain rfl:k=g.Odd.length:=by omega
    rw [ZH (by omega),cond_false]
    rw [Yl] at hc;refine ⟨_,rfl,hcb,hc.congr λm=>?_⟩
    constructor
    ·rintro (h1|⟨i,j,h1,h2,h3⟩)
     ·exact .inl h1
     ·rcases h1 with ⟨x,hx,hxi⟩|⟨x,hx,hxi⟩
      ·exact .inr ⟨x,hx,i,j,.inl hxi,h2,h3⟩
      ·exact .inr ⟨x,hx,i,j,.inr hxi,h2,h3⟩
    ·rintro (h1|⟨x,hx,i,j,h1,h2,h3⟩)
     ·exact .inl h1
     ·rcases h1 with h1|h1
      ·exact .inr ⟨i,j,.inl ⟨x,hx,h1⟩,h2,h3⟩
      ·exact .inr ⟨i,j,.inr ⟨x,hx,h1⟩,h2,h3⟩) (0,b.1,b.2) ⟨0,b,YI _,rfl,hbb,hB.congr λm=>by simp⟩
 exact ⟨r,q1,q2⟩
theorem ZDR {g:Form} (h:Fit g) (h0:0<g.Count) {up:Bool} {d i j:Int} (hp:CoreP g up d i j):∃ i' j',Z1h g up d i' j'/\j'-i'=j-i:=by
 obtain ⟨k,hk,hn⟩:=pigeon (g.Odd.map (·.Index)++g.Odd.map (λx=>x.Index-(j-i))) (λk=>i+g.Count*k) (λa b hab=>by
  have h4:g.Count*(a:Int)=g.Count*b:=by omega
  have:=Int.eq_of_mul_eq_mul_left (by omega) h4
  omega)
 rw [Yv,not_or] at hn
 have o1:¬ Zt g (i+g.Count*k):=by
  rintro ⟨x,hx,e⟩;exact hn.1 (List.mem_map.2 ⟨x,hx,e⟩)
 have o2:¬ Zt g (j+g.Count*k):=by
  rintro ⟨x,hx,e⟩;exact hn.2 (List.mem_map.2 ⟨x,hx,by rw [e];omega⟩)
 refine ⟨i+g.Count*k,j+g.Count*k,?_,by omega⟩
 obtain ⟨p1,p2,p3⟩:=hp
 unfold Z1h
 rw [Z1m h0 o1,Z1m h0 o2,Z5x h0,Z5x h0,(Z0Z _ p1).1,(Z0Z _ p1).2,(Z0Z _ p2).1,(Z0Z _ p2).2]
 refine ⟨by simpa using p1,by simpa using p2,?_⟩
 cases up
 ·simp only [Y6,if_false] at p3 ⊢;omega
 ·simp only [if_true] at p3 ⊢;omega
theorem ZDJ {g:Form} (h:Fit g) {up:Bool} {d i j:Int} (hi:¬ Zt g i) (hj:¬ Zt g j) (hp:Z1h g up d i j):0<g.Count/\∃ i' j',0<=i'/\i'<g.Count/\CoreP g up d i' j'/\j'-i'=j-i:=by
 have hc:=h.shape.count
 have h0:0<g.Count:=by
  by_cases h0:0<g.Count
  ·exact h0
  ·exact absurd (Z1e hi (by omega)) hp.1
 refine ⟨h0,?_⟩
 unfold Z1h at hp
 rw [Z1m h0 hi,Z1m h0 hj] at hp
 obtain ⟨s,q,s0,s1,rfl,es⟩:=Z4P h0 i
 have ej:cs g j=(cs g (j-g.Count*q)).map (Zz (q*g.Period)):=by
  have:=Z5x h0 (j-g.Count*q) q
  rwa [show j-g.Count*q+g.Count*q=j by omega] at this
 rw [es,ej] at hp
 obtain ⟨p1,p2,p3⟩:=hp
 have n1:cs g s≠[]:=by simpa using p1
 have n2:cs g (j-g.Count*q)≠[]:=by simpa using p2
 rw [(Z0Z _ n1).1,(Z0Z _ n1).2,(Z0Z _ n2).1,(Z0Z _ n2).2] at p3
 refine ⟨s,j-g.Count*q,s0,s1,⟨n1,n2,?_⟩,by omega⟩
 cases up
 ·simp only [Y6,if_false] at p3 ⊢;omega
 ·simp only [if_true] at p3 ⊢;omega
theorem far_eq {f g:Form} (hg:Z0q f=some g) (h:Fit g) (hb:0<g.Count->¬ Bare g) {d:Int} (hd:ZI d) (up:Bool) :
  ∃ n b,ZU f d up=some (n,b,0)/\BigI n/\Best (λm=>∃ i j,Z1h g up d i j/\m=sgU up*(j-i)) (sgU up*n,b):=by
 unfold ZU
 have hr:Z3p d=true:=by unfold Z3p;unfold ZI at hd;simp;omega
 rw [hr,YD,cond_false,made_eq hg h.lim h.few]
 simp only [Y0]
 have hy:(bif up then some (-1:Int) else some 1)=some (sgU up):=by unfold sgU;cases up<;>rfl
 rw [hy]
 simp only [Y0]
 obtain ⟨r1,a1,a2,a3⟩:=far_spots h hb hd up
 rw [a1]
 simp only [Y0]
 obtain ⟨r2,b1,b2,b3⟩:=far_odds h hb hd up a2 a3
 rw [b1]
 simp only [Y0]
 have hw:w64 (sgU up*r2.1)=sgU up*r2.1:=by
  have:=sg_big (up:=up) b2;unfold BigI at this;exact Z3 (by omega)
 rw [hw]
 refine ⟨_,_,rfl,sg_big b2,?_⟩
 rw [sg_sg]
 refine b3.congr λm=>?_
 constructor
 ·rintro ⟨i,j,p,e⟩
  by_cases hi:Zt g i
  ·exact .inr ⟨i,j,.inl hi,p,e⟩
  ·by_cases hj:Zt g j
   ·exact .inr ⟨i,j,.inr hj,p,e⟩
   ·obtain ⟨h0,i',j',i0,i1,hp,e'⟩:=ZDJ h hi hj p;exact .inl ⟨i',j',i0,i1,hp,by rw [e,e']⟩
 ·rintro (⟨i,j,i0,i1,hp,e⟩|⟨i,j,ho,p,e⟩)
  ·obtain ⟨i',j',p,e'⟩:=ZDR h (by omega) hp
   exact ⟨i',j',p,by rw [e,e']⟩
  ·exact ⟨i,j,p,e⟩
end Go.Dn

namespace Go.Dn
open Go
def FewF (f:Form):Prop:=f.Core.length<=12/\f.Odd.length<=8
theorem SmallF.few {f:Form} (h:SmallF f):FewF f:=⟨h.1,h.2.1⟩
theorem ZC0 {f:Form} (hl:Lim f) (hr:RightF f) (hsm:FewF f):∃ g,Z0q f=some g/\Fit g/\(0<g.Count->¬ Bare g)/\Z9 g=Z9 f:=by
 have hs:=hr.shape
 obtain ⟨c,hc,hf⟩:=canon_Form_eq hl hs
 have hs':=Z8E hs hc
 have hr':=canonF_right hr hc
 have hcl:=coreOf_le hs hc
 refine ⟨_,hf,⟨canonF_lim hl hs hc,hs',hr'.turns,Ya hcl.2.2.1 hsm.1,Ya (Y0c _ _) hsm.2⟩,?_,ZB5 hs hc⟩
 intro h0 hb
 have ez:=Z8B hs hc
 have hz:∀ i,csz f i=[]:=λi=>by rw [<- ez];exact csz_bare hs' hb i
 rcases hc with ⟨h1,rfl⟩|⟨h1,h2,_⟩
 ·exact absurd h0 (by show ¬ (0:Int)<0;omega)
 ·obtain ⟨i,i1,i2,i3⟩:=cs_some hs h1 h2 0;have:=hz i;rw [Z5u h2] at this;exact i3 this
structure DownS (f:Form) (d:Int) (r:Int×Bool):Prop where
 yes:r.2=true->(∃ i j,Z1h f false d i j/\r.1=j-i)/\∀ i j,Z1h f false d i j->j-i<=r.1
 no:r.2=false->∀ i j,¬ Z1h f false d i j
structure UpS (f:Form) (d:Int) (r:Int×Bool):Prop where
 yes:r.2=true->(∃ i j,Z1h f true d i j/\r.1=j-i)/\∀ i j,Z1h f true d i j->r.1<=j-i
 no:r.2=false->∀ i j,¬ Z1h f true d i j
theorem Z5H {f g:Form} (h:Z9 g=Z9 f) {up:Bool} {d i j:Int}:Z1h g up d i j↔Z1h f up d i j:=by unfold Z1h;rw [h]
theorem ZAU {f:Form} (hl:Lim f) (hr:RightF f) (hsm:FewF f) {d:Int} (hd:ZI d):∃ n b,Z4Y f d=some (n,b,0)/\BigI n/\DownS f d (n,b):=by
 obtain ⟨g,g1,g2,g3,g4⟩:=ZC0 hl hr hsm
 obtain ⟨n,b,e1,e2,e3⟩:=far_eq g1 g2 g3 hd false
 unfold Z4Y
 rw [e1]
 refine ⟨n,b,rfl,e2,⟨λhb=>?_,λhb i j hp=>?_⟩⟩
 ·obtain ⟨⟨i,j,p,e⟩,hall⟩:=e3.yes hb;simp only [sgU,Y6,if_false,Int.one_mul] at e hall;refine ⟨⟨i,j,(Z5H g4).1 p,e⟩,λi' j' hp=>?_⟩;exact hall _ ⟨i',j',(Z5H g4).2 hp,rfl⟩
 ·exact (e3.no hb).2 _ ⟨i,j,(Z5H g4).2 hp,rfl⟩
theorem ZDd {f:Form} (hl:Lim f) (hr:RightF f) (hsm:FewF f) {d:Int} (hd:ZI d):∃ n b,Z7w f d=some (n,b,0)/\BigI n/\UpS f d (n,b):=by
 obtain ⟨g,g1,g2,g3,g4⟩:=ZC0 hl hr hsm
 obtain ⟨n,b,e1,e2,e3⟩:=far_eq g1 g2 g3 hd true
 unfold Z7w
 rw [e1]
 refine ⟨n,b,rfl,e2,⟨λhb=>?_,λhb i j hp=>?_⟩⟩
 ·obtain ⟨⟨i,j,p,e⟩,hall⟩:=e3.yes hb;simp only [sgU,if_true] at e hall;refine ⟨⟨i,j,(Z5H g4).1 p,by simp only;omega⟩,λi' j' hp=>?_⟩
  have:=hall _ ⟨i',j',(Z5H g4).2 hp,rfl⟩;simp only;omega
 ·exact (e3.no hb).2 _ ⟨i,j,(Z5H g4).2 hp,rfl⟩
theorem down_mono {f:Form} {d d' i j:Int} (h:Z1h f false d i j) (hd:d<=d'):Z1h f false d' i j:=by
 unfold Z1h at *
 simp only [Y6,if_false] at *
 exact ⟨h.1,h.2.1,by omega⟩
noncomputable def bad (low high:Bound):Bool:=(((!(ZO low))||(!(ZO high)))||(low.Inf==1))||(high.Inf==(-1))
structure RangeS (f:Form) (low high:Bound) (r:Range) (ok:Bool):Prop where
 none:ok=false->r=Range.mk 0 0 false false
 hi:ok=true->(r.HasHigh=true↔high.Inf=0/\high.N<=1099511627776)
 lo:ok=true->(r.HasLow=true↔low.Inf=0/\-1099511627776<=low.N)
 atH:ok=true->r.HasHigh=true->DownS f (max high.N (-1099511627776)) (r.High,true)
 atL:ok=true->r.HasLow=true->UpS f (min low.N 1099511627776) (r.Low,true)
 nhi:ok=true->r.HasHigh=false->r.High=0
 nlo:ok=true->r.HasLow=false->r.Low=0
 not:ok=false->(high.Inf=0/\high.N<=1099511627776/\∀ i j,¬ Z1h f false (max high.N (-1099511627776)) i j)\/(low.Inf=0/\-1099511627776<=low.N/\∀ i j,¬ Z1h f true (min low.N 1099511627776) i j)
theorem ZDp {f:Form} (hl:Lim f) (hr:RightF f) (hsm:FewF f) {low high:Bound} (h:bad low high=false):∃ r ok,Z2C f low high=some (r,ok,0)/\RangeS f low high r ok:=by
 unfold Z2C
 rw [show ((((!(ZO low))||(!(ZO high)))||(low.Inf==1))||(high.Inf==(-1)))=false from h,cond_false]
 have t1:ZI (max high.N (-1099511627776))\/¬ (high.N<=1099511627776):=by unfold ZI;omega
 have t2:ZI (min low.N 1099511627776)\/¬ (-1099511627776<=low.N):=by unfold ZI;omega
 rw [iMax_eq,iMin_eq]
 -- the high end
 by_cases ch:high.Inf=0/\high.N<=1099511627776
 ·have ech:((high.Inf==0)&&(decide (high.N<=1099511627776)))=true:=by simp [ch.1,ch.2]
  rw [ech,cond_true];obtain ⟨n,b,e1,e2,e3⟩:=ZAU hl hr hsm (t1.resolve_right λh=>h ch.2)
  rw [e1];simp only [Y0];cases b with
  | false=>
   simp only [Yx,cond_true,Y0,Jx.elim];exact ⟨_,_,rfl,λ_=>rfl,nofun,nofun,nofun,nofun,nofun,nofun,λ_=>.inl ⟨ch.1,ch.2,e3.no rfl⟩⟩
  | true=>
   simp only [YD,cond_false,Y0,Jx.elim]
   by_cases cl:low.Inf=0/\-1099511627776<=low.N
   ·have ecl:((low.Inf==0)&&(decide (low.N>=(-1099511627776))))=true:=by simp [cl.1];exact cl.2
    rw [ecl,cond_true];obtain ⟨m,c,f1,f2,f3⟩:=ZDd hl hr hsm (t2.resolve_right λh=>h cl.2)
    rw [f1];simp only [Y0];cases c with
    | false=>
     simp only [Yx,cond_true,Y0,Jx.elim];exact ⟨_,_,rfl,λ_=>rfl,nofun,nofun,nofun,nofun,nofun,nofun,λ_=>.inr ⟨cl.1,cl.2,f3.no rfl⟩⟩
    | true=>
     simp only [YD,cond_false,Y0,Jx.elim];exact ⟨_,_,rfl,nofun,λ_=>⟨λ_=>ch,λ_=>rfl⟩,λ_=>⟨λ_=>cl,λ_=>rfl⟩,λ_ _=>e3,λ_ _=>f3,λ_ h=>(by cases h),λ_ h=>(by cases h),nofun⟩
   ·have ecl:((low.Inf==0)&&(decide (low.N>=(-1099511627776))))=false:=by
     apply Bool.eq_false_iff.2;intro h;simp at h;exact cl ⟨h.1,h.2⟩
    rw [ecl,cond_false];simp only [Y0,Jx.elim];exact ⟨_,_,rfl,nofun,λ_=>⟨λ_=>ch,λ_=>rfl⟩,λ_=>⟨λh=>(by cases h),λh=>absurd h cl⟩,λ_ _=>e3,λ_ h=>(by cases h),λ_ h=>(by cases h),λ_ _=>rfl,nofun⟩
 ·have ech:((high.Inf==0)&&(decide (high.N<=1099511627776)))=false:=by
   apply Bool.eq_false_iff.2;intro h;simp at h;exact ch h
  rw [ech,cond_false];simp only [Y0,Jx.elim]
  by_cases cl:low.Inf=0/\-1099511627776<=low.N
  ·have ecl:((low.Inf==0)&&(decide (low.N>=(-1099511627776))))=true:=by simp [cl.1];exact cl.2
   rw [ecl,cond_true];obtain ⟨m,c,f1,f2,f3⟩:=ZDd hl hr hsm (t2.resolve_right λh=>h cl.2)
   rw [f1];simp only [Y0];cases c with
   | false=>
    simp only [Yx,cond_true,Y0,Jx.elim];exact ⟨_,_,rfl,λ_=>rfl,nofun,nofun,nofun,nofun,nofun,nofun,λ_=>.inr ⟨cl.1,cl.2,f3.no rfl⟩⟩
   | true=>
    simp only [YD,cond_false,Y0,Jx.elim];exact ⟨_,_,rfl,nofun,λ_=>⟨λh=>(by cases h),λh=>absurd h ch⟩,λ_=>⟨λ_=>cl,λ_=>rfl⟩,λ_ h=>(by cases h),λ_ _=>f3,λ_ _=>rfl,λ_ h=>(by cases h),nofun⟩
  ·have ecl:((low.Inf==0)&&(decide (low.N>=(-1099511627776))))=false:=by
    apply Bool.eq_false_iff.2;intro h;simp at h;exact cl ⟨h.1,h.2⟩
   rw [ecl,cond_false];simp only [Y0,Jx.elim];exact ⟨_,_,rfl,nofun,λ_=>⟨λh=>(by cases h),λh=>absurd h ch⟩,λ_=>⟨λh=>(by cases h),λh=>absurd h cl⟩,λ_ h=>(by cases h),λ_ h=>(by cases h),λ_ _=>rfl,λ_ _=>rfl,nofun⟩
def Near (f:Form) (m d:Int):Prop:=∃ i j,Z1h f false d i j/\m<=j-i
theorem Near.mono {f:Form} {m m' d d':Int} (h:Near f m d) (hm:m'<=m) (hd:d<=d'):Near f m' d':=by
 obtain ⟨i,j,h1,h2⟩:=h
 exact ⟨i,j,down_mono h1 hd,by omega⟩
def farI (m:Int):Int:=min (max m (-4611686018427387904)) 4611686018427387904
theorem farI_eq (m:Int):iMin (iMax m (-4611686018427387904)) 4611686018427387904=farI m:=by rw [iMax_eq,iMin_eq];rfl
def LowD (f:Form) (m d:Int):Prop:=-1099511627776<=d/\d<=1099511627776/\(∀ z,-1099511627776<=z->z<d->¬ Near f m z)/\(d<1099511627776->Near f m d)
def Z5n (d:Int):Bound:=if d = -1099511627776 then ⟨-1,0⟩ else ⟨0,d⟩
open Classical in
theorem carry_Low_eq {f:Form} (hl:Lim f) (hr:RightF f) (hsm:FewF f) (m:Int):∃ d,Z36 f m=some (Z5n d)/\LowD f (farI m) d:=by
 unfold Z36
 rw [farI_eq]
 obtain ⟨r,s1,s2,s3,s4,s5⟩:=ZBj (n:=2199023255553) (by omega) (by omega) (f:=λz0=>Z0x (carry_asked.mk f (farI m)) z0) (p:=λz=>decide (Near f (farI m) (z-1099511627776))) (by
   intro z z0 z1;unfold Z0x;simp only;rw [Z3 (x:=z-1099511627776) (by omega)]
   obtain ⟨n,b,e1,e2,e3⟩:=ZAU hl hr hsm (d:=z-1099511627776) (by unfold ZI;omega)
   rw [e1];simp only [Y0,beq_self_eq_true,Bool.and_true,Y5];cases b with
   | false=>
    rw [Y0j];symm;apply ZH;rintro ⟨i,j,h1,h2⟩;exact e3.no rfl i j h1
   | true=>
    rw [Y0q,decide_eq_decide];obtain ⟨⟨i,j,h1,h2⟩,hall⟩:=e3.yes rfl
    constructor
    ·intro h;exact ⟨i,j,h1,by simp only at h2;omega⟩
    ·rintro ⟨i',j',h3,h4⟩;have:=hall i' j' h3;simp only at this;omega) (by
   intro a b a0 hab hb hp;simp only [decide_eq_true_eq] at hp ⊢;exact hp.mono (Yi _) (by omega))
 rw [s1]
 simp only [Y0]
 rw [iMin_eq,Z3 (by omega)]
 refine ⟨min r 2199023255552-1099511627776,?_,by omega,by omega,?_,?_⟩
 ·unfold Z5n
  by_cases h:min r 2199023255552-1099511627776 = -1099511627776
  ·rw [Z9d h,cond_true,if_pos h]
  ·rw [Z5p h,cond_false,if_neg h]
 ·intro z z0 z1;have:=s4 (z+1099511627776) (by omega) (by omega)
  simp only [decide_eq_false_iff_not] at this
  rwa [show z+1099511627776-1099511627776=z by omega] at this
 ·intro hlt;have:=s5 r (Yi _) (by omega)
  simp only [decide_eq_true_eq] at this
  rwa [show min r 2199023255552=r by omega]
theorem LowD.mono {f:Form} {m m' d d':Int} (h:LowD f m d) (h':LowD f m' d') (hm:m<=m'):d<=d':=by
 obtain ⟨a1,a2,a3,a4⟩:=h
 obtain ⟨b1,b2,b3,b4⟩:=h'
 by_cases hd:d<=d'
 ·exact hd
 ·exact absurd ((b4 (by omega)).mono hm (Yi _)) (a3 d' b1 (by omega))
def Z8I (d:Int):Bound:=if d = -1099511627776 then ⟨1,0⟩ else ⟨0,-d⟩
theorem ZCA {d:Int} (h : -1099511627776<=d/\d<=1099511627776):(Z8 (Z5n d)).1=Z8I d:=by
 unfold Z5n Z8I
 by_cases h0:d = -1099511627776
 ·rw [if_pos h0,if_pos h0];decide
 ·rw [if_neg h0,if_neg h0];unfold Z8;have hr:ZO ⟨0,d⟩=true:=rfl;rw [hr,YD,cond_false];have hs:Z13 0 d=(-d,0):=by
   unfold Z13;rw [Z3 (x:=0-d) (by omega)]
   have:((decide (0-d<0) != decide (d>0))&&d != 0)=false:=by
    by_cases hp:d>0
    ·rw [ZK hp,ZK (by omega)];rfl
    ·rw [ZH hp,ZH (by omega)];rfl
   rw [this,cond_false,show 0-d = -d by omega]
  rw [hs]
  rfl
def goodB (x:Bound):Prop:=ZO x=true/\x.N<=1099511627776/\-1099511627776<=x.N
end Go.Dn

namespace Go.Dn
open Go
structure NearF0 (f:Form):Prop where
 lim:Lim f
 right:RightF f
 small:SmallF f
 per:f.Period<=200
 hull:∀ l∈f.Core,l≠[]->-100<=fstT l/\lstT l<=100
 odd:∀ g∈f.Odd,-100<=g.Index/\g.Index<=100
theorem span_within {l:List Span} (h:RightL l):∀ s∈l,fstT l<=s.From/\s.From<=s.To/\s.To<=lstT l:=by
 induction l with
 | nil=>intro s hs;cases hs
 | cons x l ih=>
  intro s hs;have h0:=h.ok 0 x rfl
  cases l with
  | nil=>
   rw [YM] at hs;subst hs;exact ⟨Yi _,h0.2.2,Yi _⟩
  | cons y l=>
   have h1:=h.gap 0 x y rfl rfl;have e1:lstT (x::y::l)=lstT (y::l):=by simp [lstT]
   have e2:fstT (y::l)=y.From:=rfl;have e3:fstT (x::y::l)=x.From:=rfl;have hf:=Z1c h.tail (by simp)
   rw [e1,e3];rcases List.mem_cons.1 hs with rfl|hs
   ·exact ⟨Yi _,h0.2.2,by omega⟩
   ·have:=ih h.tail s hs;exact ⟨by omega,this.2.1,this.2.2⟩
theorem NearF0.core {f:Form} (h:NearF0 f) (h0:0<f.Count) {i:Int} (hi : -2000<=i/\i<=2000):∀ s∈cs f i,-500000<=s.From/\s.To<=500000/\s.From<=s.To:=by
 intro s hs
 obtain ⟨j,q,j0,j1,rfl,e⟩:=Z4P h0 i
 rw [e] at hs
 obtain ⟨s0,hs0,rfl⟩:=List.mem_map.1 hs
 have hr:=Z38 h.right.shape h0 j0 j1
 have hne:cs f j≠[]:=Y19 hs0
 have hm:cs f j∈f.Core:=by
  rw [Z43 j0 j1];have:=h.right.shape.count;have hj:j.toNat<f.Core.length:=by omega
  rw [YQ,Y2 hj];exact YE hj
 have h1:=span_within hr s0 hs0
 have h2:=h.hull _ hm hne
 have hc:=h.right.shape.count
 have hp:=h.right.shape.per
 have hp2:=h.per
 have hq : -2000<=q/\q<=2000:=by
  constructor
  ·by_cases hq : -2000<=q
   ·exact hq
   ·have:f.Count*q<=f.Count * -2001:=YT (by omega) (by omega)
    have:f.Count * -2001<=j-2001-f.Count:=by
     have:1<=f.Count:=by omega
     omega
    omega
  ·by_cases hq:q<=2000
   ·exact hq
   ·have:f.Count*2001<=f.Count*q:=YT (by omega) (by omega)
    omega
 have b1:=Ym hq.1 hp.1
 have b2:=Ym hq.2 hp.1
 simp only [Zz]
 omega
theorem NearF0.Z3f {f:Form} (h:NearF0 f) {i:Int} (hi:Zt f i) : -100<=i/\i<=100:=by
 obtain ⟨g,hg,rfl⟩:=hi
 exact h.odd g hg
theorem NearF0.fits {f:Form} (h:NearF0 f) {i:Int} (hi : -2000<=i/\i<=2000):fits f i:=by
 intro s hs
 by_cases ho:Zt f i
 ·obtain ⟨g,hg,rfl⟩:=ho;rw [Z1T h.right.shape.inc hg] at hs;obtain ⟨k,hk⟩:=YC hs;have:=(h.right.shape.odd g hg).1.ok k s hk;exact ⟨this.1,this.2.1⟩
 ·by_cases h0:0<f.Count
  ·rw [Z1m h0 ho] at hs;have:=h.core h0 hi s hs;unfold ZI;omega
  ·rw [Z1e ho (by have:=h.right.shape.count;omega)] at hs;cases hs
theorem Z7h {f:Form} (h0:0<f.Count) (i a:Int):∃ q,a<=i+f.Count*q/\i+f.Count*q<a+f.Count:=by
 refine ⟨-((i-a) / f.Count),?_⟩
 have e:=Y06 (i-a) f.Count
 have e0:=Yt (i-a) (show f.Count≠0 by omega)
 have e1:=Y03 (i-a) h0
 rw [Int.mul_neg]
 omega
theorem NearF0.Z4c {f:Form} (h:NearF0 f) {i:Int} (hi:¬ Zt f i) (hn:Z9 f i≠[]):0<f.Count/\f.Count<=12/\cs f i≠[]:=by
 have hc:=h.right.shape.count
 have hs:=h.small.1
 have h0:0<f.Count:=by
  by_cases h0:0<f.Count
  ·exact h0
  ·exact absurd (Z1e hi (by omega)) hn
 rw [Z1m h0 hi] at hn
 exact ⟨h0,by omega,hn⟩
theorem NearF0.turned {f:Form} (h:NearF0 f) (h0:0<f.Count) {i q:Int} (hn:cs f i≠[]) (ho:¬ Zt f (i+f.Count*q)):Z9 f (i+f.Count*q)≠[]/\fstT (Z9 f (i+f.Count*q))=fstT (cs f i)+q*f.Period/\lstT (Z9 f (i+f.Count*q))=lstT (cs f i)+q*f.Period:=by
 rw [Z1m h0 ho,Z5x h0,(Z0Z _ hn).1,(Z0Z _ hn).2]
 exact ⟨by simpa using hn,rfl,rfl⟩
theorem NearF0.Z6x {f:Form} (h:NearF0 f) {i k:Int} (hik:i<k) (hi : -2000<=i/\i<=2000) (hk : -2000<=k/\k<=2000) (ni:Z9 f i≠[]) (nk:Z9 f k≠[]):lstT (Z9 f i)<fstT (Z9 f k) :=
 RightF.order h.lim h.right _ i k rfl hik (by unfold ZI;omega) (by unfold ZI;omega) (h.fits hi) (h.fits hk) ni nk
theorem NearF0.ZAI {f:Form} (h:NearF0 f) (h0:0<f.Count) {i k:Int} (hik:i<k) (oi:¬ Zt f i) (ok:¬ Zt f k) (ni:Z9 f i≠[]) (nk:Z9 f k≠[]):lstT (Z9 f i)<fstT (Z9 f k):=by
 rw [Z1m h0 oi] at ni ⊢
 rw [Z1m h0 ok] at nk ⊢
 exact Z6d h.right.shape h.right.turns h0 hik ni nk
theorem NearF0.le_small {f:Form} (h:NearF0 f) {i:Int} (hi : -2000<=i/\i<=2000) (ni:Z9 f i≠[]):fstT (Z9 f i)<=lstT (Z9 f i) :=
 Z1c (Z4W h.right.shape (h.fits hi)) ni
theorem NearF0.order {f:Form} (h:NearF0 f) {i k:Int} (hik:i<k) (ni:Z9 f i≠[]) (nk:Z9 f k≠[]):lstT (Z9 f i)<fstT (Z9 f k):=by
 by_cases oi:Zt f i
 ·have bi:=h.Z3f oi
  by_cases hk:k<=2000
  ·exact h.Z6x hik (by omega) (by omega) ni nk
  ·have ok:¬ Zt f k:=λo=>by have:=h.Z3f o;omega
   obtain ⟨h0,h12,ck⟩:=h.Z4c ok nk;obtain ⟨q,q1,q2⟩:=Z7h h0 k 900;have oc:¬ Zt f (k+f.Count*q):=λo=>by have:=h.Z3f o;omega
   obtain ⟨nc,c1,c2⟩:=h.turned h0 ck oc;have o1:=h.Z6x (k:=k+f.Count*q) (by omega) (by omega) (by omega) ni nc
   have o2:=h.le_small (i:=k+f.Count*q) (by omega) nc
   have o3:=h.ZAI h0 (i:=k+f.Count*q) (k:=k) (by omega) oc ok nc nk
   omega
 ·by_cases ok:Zt f k
  ·have bk:=h.Z3f ok
   by_cases hi : -2000<=i
   ·exact h.Z6x hik (by omega) (by omega) ni nk
   ·obtain ⟨h0,h12,ci⟩:=h.Z4c oi ni;obtain ⟨q,q1,q2⟩:=Z7h h0 i (-900);have oc:¬ Zt f (i+f.Count*q):=λo=>by have:=h.Z3f o;omega
    obtain ⟨nc,c1,c2⟩:=h.turned h0 ci oc;have o1:=h.ZAI h0 (i:=i) (k:=i+f.Count*q) (by omega) oi oc ni nc
    have o2:=h.le_small (i:=i+f.Count*q) (by omega) nc
    have o3:=h.Z6x (i:=i+f.Count*q) (k:=k) (by omega) (by omega) (by omega) nc nk
    omega
  ·obtain ⟨h0,_,_⟩:=h.Z4c oi ni;exact h.ZAI h0 hik oi ok ni nk
theorem NearF0.fst_mono {f:Form} (h:NearF0 f) {i k:Int} (hi : -2000<=i/\i<=2000) (hik:i<=k) (ni:Z9 f i≠[]) (nk:Z9 f k≠[]):fstT (Z9 f i)<=fstT (Z9 f k):=by
 by_cases e:i=k
 ·subst e;exact Yi _
 ·have:=h.order (show i<k by omega) ni nk
  have:=h.le_small hi ni;omega
theorem NearF0.norm {f:Form} (h:NearF0 f) {m i j:Int} (hm : -200<=m/\m<=200) (hij:i+m<=j) (ni:Z9 f i≠[]) (nj:Z9 f j≠[]) :
  ∃ i' j',-600<=i'/\i'<=600/\i'+m<=j'/\Z9 f i'≠[]/\Z9 f j'≠[]/\fstT (Z9 f j')-lstT (Z9 f i')<=fstT (Z9 f j)-lstT (Z9 f i):=by
 by_cases h1:600<i
 ·have oi:¬ Zt f i:=λo=>by have:=h.Z3f o;omega
  have oj:¬ Zt f j:=λo=>by have:=h.Z3f o;omega
  obtain ⟨h0,h12,ci⟩:=h.Z4c oi ni;obtain ⟨_,_,cj⟩:=h.Z4c oj nj;obtain ⟨q,q1,q2⟩:=Z7h h0 i 580;have oi':¬ Zt f (i+f.Count*q):=λo=>by have:=h.Z3f o;omega
  have oj':¬ Zt f (j+f.Count*q):=λo=>by have:=h.Z3f o;omega
  obtain ⟨a1,a2,a3⟩:=h.turned h0 ci oi';obtain ⟨b1,b2,b3⟩:=h.turned h0 cj oj';refine ⟨_,_,by omega,by omega,by omega,a1,b1,?_⟩
  rw [b2,a3,Z1m h0 oi,Z1m h0 oj];omega
 ·by_cases h2:i < -600
  ·have oi:¬ Zt f i:=λo=>by have:=h.Z3f o;omega
   obtain ⟨h0,h12,ci⟩:=h.Z4c oi ni;obtain ⟨q,q1,q2⟩:=Z7h h0 i (-600);have oi':¬ Zt f (i+f.Count*q):=λo=>by have:=h.Z3f o;omega
   obtain ⟨a1,a2,a3⟩:=h.turned h0 ci oi';obtain ⟨p,p1,p2⟩:=Z7h h0 i (i+m);have op:¬ Zt f (i+f.Count*p):=λo=>by have:=h.Z3f o;omega
   obtain ⟨c1,c2,c3⟩:=h.turned h0 ci op
   by_cases hj:i+f.Count*p<=j
   ·have ep:i+f.Count*p+f.Count*q=i+f.Count*(p+q):=by rw [Y0m];omega
    have opq:¬ Zt f (i+f.Count*(p+q)):=λo=>by have:=h.Z3f o;rw [Y0m] at this;omega
    obtain ⟨d1,d2,d3⟩:=h.turned h0 ci opq;refine ⟨_,_,by omega,by omega,by rw [Y0m];omega,a1,d1,?_⟩
    have hle:fstT (Z9 f (i+f.Count*p))<=fstT (Z9 f j):=by
     by_cases e:i+f.Count*p=j
     ·rw [e];exact Yi _
     ·have o1:=h.order (show i+f.Count*p<j by omega) c1 nj
      obtain ⟨s,q',s0,s1,es,ej⟩:=Z4P h0 i;have hsn:cs f s≠[]:=λhh=>ci (by rw [ej,hh];rfl)
      have o2:=Z1c (Z38 h.right.shape h0 s0 s1) hsn;have o3:=Z0Z (q'*f.Period) hsn;rw [<- ej] at o3;omega
    rw [d2,a3,Y1B];rw [Z1m h0 oi];rw [c2] at hle;omega
   ·have oj:¬ Zt f j:=λo=>by have:=h.Z3f o;omega
    obtain ⟨_,_,cj⟩:=h.Z4c oj nj;have oj':¬ Zt f (j+f.Count*q):=λo=>by have:=h.Z3f o;omega
    obtain ⟨b1,b2,b3⟩:=h.turned h0 cj oj';refine ⟨_,_,by omega,by omega,by omega,a1,b1,?_⟩
    rw [b2,a3,Z1m h0 oi,Z1m h0 oj];omega
  ·exact ⟨i,j,by omega,by omega,hij,ni,nj,Yi _⟩
theorem NearF0.window {f:Form} (h:NearF0 f) {a j:Int} (ha : -900<=a/\a<=900) (hj:a<=j) (nj:Z9 f j≠[]):∃ k,a<=k/\k<=max (a+30) 130/\k<=j/\Z9 f k≠[]:=by
 by_cases hw:j<=max (a+30) 130
 ·exact ⟨j,hj,hw,Yi _,nj⟩
 ·have oj:¬ Zt f j:=λo=>by have:=h.Z3f o;omega
  obtain ⟨h0,h12,cj⟩:=h.Z4c oj nj;obtain ⟨q,q1,q2⟩:=Z7h h0 j (max a 101);have oj':¬ Zt f (j+f.Count*q):=λo=>by have:=h.Z3f o;omega
  obtain ⟨b1,b2,b3⟩:=h.turned h0 cj oj';exact ⟨_,by omega,by omega,by omega,b1⟩
end Go.Dn

namespace Go.Dn
open Go
theorem set05_eq {f:Form} (h:NearF0 f) {i:Int} (hi : -2000<=i/\i<=2000):∃ l q,Z0c f i=some (l,q)/\-2000<=q/\q<=2000/\Len l/\Z9 f i=l.map (Zz (q*f.Period))/\(l≠[]->q≠0->0<f.Period)/\RightL l:=by
 have hl:=h.lim
 have hs:=h.right.shape
 have holen:(f.Odd.length:Int)<4611686018427387904:=Z2u (b:=31) hl.odd
 have hcnt:=hs.count
 have hper:=hs.per
 have hz:=hs.zero
 have hloop:(loopO (Z0c.s0 f i) 0=some (.go ())/\¬ Zt f i)\/∃ g∈f.Odd,g.Index=i/\loopO (Z0c.s0 f i) 0=some (.ret (g.Ticks,0)):=by
  obtain ⟨r,q1,q2⟩:=Z0R (step:=Z0c.s0 f i) (λs=>∃ k:Nat,k<=f.Odd.length/\s=(k:Int)/\∀ g∈f.Odd.take k,g.Index≠i) (λs=>f.Odd.length-s.toNat)
   (λr=>(r = .go ()/\¬ Zt f i)\/∃ g∈f.Odd,g.Index=i/\r = .ret (g.Ticks,0)) (by
    rintro s ⟨k,hk,rfl,hall⟩;unfold Z0c.s0
    by_cases hlt:k<f.Odd.length
    ·rw [ZK (show (k:Int)<f.Odd.length by omega),cond_true,at?_nat hlt]
     simp only [Y0]
     by_cases he:f.Odd[k].Index=i
     ·right
      rw [Z9d he,cond_true];exact ⟨_,rfl,.inr ⟨f.Odd[k],YE hlt,he,rfl⟩⟩
     ·left
      rw [Z5p he,cond_false,Z3 (by omega)]
      refine ⟨_,rfl,⟨k+1,hlt,by push_cast;rfl,?_⟩,by omega⟩
      intro g hg;rw [(Yd hlt).symm] at hg;rcases List.mem_append.1 hg with h1|h1
      ·exact hall g h1
      ·rw [YM] at h1;subst h1;exact he
    ·right
     obtain rfl:k=f.Odd.length:=by omega
     rw [ZH (by omega),cond_false]
     rw [Yl] at hall;exact ⟨_,rfl,.inl ⟨rfl,λ⟨g,hg,e⟩=>hall g hg e⟩⟩) 0 ⟨0,YI _,rfl,by simp⟩
  rcases q2 with ⟨rfl,h2⟩|⟨g,g1,g2,rfl⟩
  ·exact .inl ⟨q1,h2⟩
  ·exact .inr ⟨g,g1,g2,q1⟩
 unfold Z0c
 rcases hloop with ⟨q1,ho⟩|⟨g,g1,rfl,q1⟩
 ·rw [q1];simp only [Y0,Jx.elim]
  by_cases h0:f.Count=0
  ·rw [Z9d h0,cond_true];exact ⟨[],0,rfl,by omega,by omega,by unfold Len;simp,by rw [Z1e ho h0];rfl,λh=>absurd rfl h,⟨by simp,by simp⟩⟩
  ·have hp:0<f.Count:=by omega
   have hfew:=h.small.1;rw [Z5p h0,cond_false,ref05_Down_eq (by unfold In64;omega) hp hl.count]
   simp only [Y0];rw [(Z1x hs h0 i).1];have hm:=(Z1x hs h0 i).2;refine ⟨Z2R f i,i / f.Count,rfl,?_,?_,(hl.sets _ hm).1,Z3G ho h0,λ_ _=>by omega,hs.core _ hm⟩
   ·have:=Int.le_ediv_of_mul_le hp (show -2000*f.Count<=i by omega);exact this
   ·by_cases hn:0<=i
    ·have:=Y0U f.Count hn;omega
    ·have:=Y0x (show i<0 by omega) hp;omega
 ·rw [q1];exact ⟨g.Ticks,0,rfl,by omega,by omega,(hl.ticks g g1).2.1,by rw [Z1T hs.inc g1,Int.zero_mul,Z7r],λ_ h=>absurd rfl h,(hs.odd g g1).1⟩
theorem move02_eq {l:List Span} {b:Int} (hl:Len l) (hr:RightL l) (hb : -1000000<=b/\b<=1000000) (ht:∀ s∈l,ZI (s.From+b)/\ZI (s.To+b)):Z0s l b=some (l.map (Zz b),0):=by
 have hlen:=Z2u (b:=15) hl
 have hrr:=Z1i
 have hro:=Z2z
 unfold Len at hl
 unfold Z0s
 have:loopO (Z0s.s0 l b) (0,[])=some (.go (l.map (Zz b))):=by
  refine Z0B (I:=λs r=>r = .go (l.map (Zz b))/\∃ k:Nat,k<=l.length/\s=((k:Int),(l.take k).map (Zz b))) (λs=>l.length-s.1.toNat) ?_ ⟨rfl,0,YI _,rfl⟩;rintro s r ⟨rfl,k,hk,rfl⟩;unfold Z0s.s0;simp only
  by_cases hlt:k<l.length
  ·left
   have hm:=YE hlt;have h1:=hr.ok k l[k] (Y2 hlt);have h2:=ht _ hm;unfold ZI at h1 h2;rw [ZK (show (k:Int)<l.length by omega),cond_true,at?_nat hlt]
   simp only [Y0];rw [Z3 (x:=1099511627776-l[k].To) (by omega),Z3 (x:=-1099511627776-l[k].From) (by omega),ZH (show ¬ b>1099511627776-l[k].To by omega),ZH (show ¬ b < -1099511627776-l[k].From by omega)]
   simp only [cond_false,Y0];rw [Z3 (x:=l[k].From+b) (by omega),Z3 (x:=l[k].To+b) (by omega),app?_ok (by simp only [YJ,YN,Ye,Yn];omega)]
   simp only [Y0];rw [Z3 (by omega)]
   refine ⟨_,rfl,⟨trivial,k+1,hlt,?_⟩,by simp only;omega⟩
   rw [(Yd hlt).symm,Ys];push_cast
   rfl
  ·right
   obtain rfl:k=l.length:=by omega
   rw [ZH (by omega),cond_false,Yl]
 rw [this]
 rfl
theorem get05_eq {f:Form} (h:NearF0 f) {i:Int} (hi : -2000<=i/\i<=2000):Z34 f i=some (Z9 f i,0):=by
 obtain ⟨l,q,e,q0,q1,hl,hset,hpos,hr⟩:=set05_eq h hi
 have hper:=h.right.shape.per
 have hp2:=h.per
 have hrr:=Z1i
 have hro:=Z2z
 unfold Z34
 rw [ZH (show ¬ i < -1099511627776 by omega),ZH (show ¬ i>1099511627776 by omega)]
 simp only [Y14,cond_false]
 rw [e]
 simp only [Y0]
 by_cases hc:l=[]\/q=0
 ·have:(((l.length:Int)==0)||(q==0))=true:=by
   rcases hc with rfl|rfl<;>simp
  rw [this,cond_true,app?_ok (by unfold Len at hl;simp only [Yn];omega)]
  simp only [Y0,Y0o];rw [hset];rcases hc with rfl|rfl
  ·rfl
  ·rw [Int.zero_mul,Z7r]
 ·have hne:l≠[]:=λh=>hc (.inl h);have hq:q≠0:=λh=>hc (.inr h);have hlp:=List.length_pos_iff.2 hne;have:(((l.length:Int)==0)||(q==0))=false:=by
   rw [Z5p (by omega),Z5p hq];rfl
  have hp0:=hpos hne hq;rw [this,cond_false,nz?_ok (by omega)]
  simp only [Y0];have d1:10995116277<=(2199023255552:Int) / f.Period/\(2199023255552:Int) / f.Period<=2199023255552:=by
   constructor
   ·apply Int.le_ediv_of_mul_le hp0;have:=YT hp2 (show (0:Int)<=10995116277 by omega)
    omega
   ·exact Y0U _ (by omega)
  have e1:(2199023255552:Int).tdiv f.Period=2199023255552 / f.Period:=Int.tdiv_eq_ediv_of_nonneg (by omega)
  have e2:(-2199023255552:Int).tdiv f.Period = -(2199023255552 / f.Period):=by rw [Int.neg_tdiv,e1]
  rw [e1,e2];generalize (2199023255552:Int) / f.Period=z at d1;rw [Z3 (x:=z) (by omega),Z3 (x:=z+1) (by omega),Z3 (x:=-z) (by omega),Z3 (x:=-z-1) (by omega),ZH (show ¬ q>z+1 by omega),ZH (show ¬ q < -z-1 by omega)]
  simp only [cond_false,Y0];have b1:=Ym q0 hper.1;have b2:=Ym q1 hper.1;rw [Z3 (x:=q*f.Period) (by omega),move02_eq hl hr (by omega) (λs hs=>by
   have:=h.fits hi (Zz (q*f.Period) s) (by rw [hset];exact List.mem_map.2 ⟨s,hs,rfl⟩)
   exact this)]
  simp only [Y0];rw [hset]
theorem ends_at {l:List Span} (hl:Len l) (hne:l≠[]):∃ x y,at? l 0=some x/\at? l (w64 ((l.length:Int)-1))=some y/\x.From=fstT l/\y.To=lstT l:=by
 have hlen:=Z2u (b:=15) hl
 have hp:0<l.length:=List.length_pos_iff.2 hne
 refine ⟨l.head hne,l.getLast hne,?_,?_,?_,?_⟩
 ·have:=at?_nat (l:=l) (k:=0) hp;rw [show ((0:Nat):Int)=0 from rfl] at this;rw [this,List.head_eq_getElem]
 ·rw [Z3 (by omega)]
  have:=at?_nat (l:=l) (k:=l.length-1) (by omega)
  rw [show ((l.length-1:Nat):Int)=(l.length:Int)-1 by omega] at this
  rw [this,Y0k]
 ·unfold fstT;rw [Y07 hne];rfl
 ·unfold lstT;rw [Y00 hne];rfl
theorem behind_eq {f:Form} (h:NearF0 f) {i to':Int} (hi : -2000<=i) (ht:to'<=2000) (hi2:i<=2000) :
  (∃ k,i<=k/\k<=to'/\Z9 f k≠[]/\(∀ z,i<=z->z<k->Z9 f z=[])/\Z0L f i to'=some (Z9 f k,true))\/((∀ z,i<=z->z<=to'->Z9 f z=[])/\Z0L f i to'=some ([],false)):=by
 obtain ⟨r,q1,q2⟩:=Z0R (step:=Z0L.s0 f to') (λs=>i<=s/\(s<=to'+1\/s=i)/\∀ z,i<=z->z<s->Z9 f z=[]) (λs=>(to'+1-s).toNat)
  (λr=>(∃ k,i<=k/\k<=to'/\Z9 f k≠[]/\(∀ z,i<=z->z<k->Z9 f z=[])/\r = .ret (Z9 f k,true))\/((∀ z,i<=z->z<=to'->Z9 f z=[])/\r = .go ())) (by
   rintro s ⟨a1,a2,a3⟩;unfold Z0L.s0
   by_cases hlt:s<=to'
   ·rw [ZK hlt,cond_true,get05_eq h (by omega)]
    simp only [Y0,beq_self_eq_true,Y0q]
    by_cases hne:Z9 f s=[]
    ·left
     rw [hne,ZH (by simp),cond_false,Z3 (by omega)]
     refine ⟨_,rfl,⟨by omega,by omega,?_⟩,by omega⟩
     intro z z0 z1
     by_cases e:z=s
     ·rw [e];exact hne
     ·exact a3 z z0 (by omega)
    ·right
     have:=List.length_pos_iff.2 hne;rw [ZK (by omega),cond_true]
     exact ⟨_,rfl,.inl ⟨s,a1,hlt,hne,a3,rfl⟩⟩
   ·right
    rw [ZH hlt,cond_false];exact ⟨_,rfl,.inr ⟨λz z0 z1=>a3 z z0 (by omega),rfl⟩⟩) i ⟨Yi _,.inr rfl,λz z0 z1=>by omega⟩
 unfold Z0L
 rw [q1]
 rcases q2 with ⟨k,k1,k2,k3,k4,rfl⟩|⟨h1,rfl⟩
 ·exact .inl ⟨k,k1,k2,k3,k4,rfl⟩
 ·exact .inr ⟨h1,rfl⟩
structure GapS (f:Form) (m:Int) (lo:Int->Prop) (b:Int×Bool):Prop where
 yes:b.2=true->∃ i j,i+m<=j/\Z9 f i≠[]/\Z9 f j≠[]/\b.1=fstT (Z9 f j)-lstT (Z9 f i)
 all:∀ i j,lo i->i+m<=j->Z9 f i≠[]->Z9 f j≠[]->b.2=true/\b.1<=fstT (Z9 f j)-lstT (Z9 f i)
theorem gap_eq {f:Form} (h:NearF0 f) {m:Int} (hm : -200<=m/\m<=200):∃ b,Z18 f m=some b/\GapS f m (λ_=>True) b:=by
 obtain ⟨r,q1,q2⟩:=Z0R (step:=Z18.s0 f m)
  (λs=>-600<=s.2.2/\s.2.2<=601/\GapS f m (λi=>-600<=i/\i<s.2.2) (s.1,s.2.1)) (λs=>(601-s.2.2).toNat)
  (λr=>GapS f m (λi=>-600<=i/\i<601) r) (by
   rintro ⟨b,c,i⟩ ⟨i0,i1,hg⟩;simp only at i0 i1 hg;unfold Z18.s0;simp only
   by_cases hlt:i<=600
   ·left
    rw [ZK hlt,cond_true,get05_eq h (by omega)]
    simp only [Y0,bne_self_eq_false,Y0D];have skip:(∀ j,i+m<=j->Z9 f i≠[]->Z9 f j≠[]->False)->GapS f m (λk=>-600<=k/\k<i+1) (b,c):=λhno=>
     ⟨hg.yes,λk j hk hkj nk nj=>by
      by_cases e:k=i
      ·subst e;exact (hno j hkj nk nj).elim
      ·exact hg.all k j ⟨hk.1,by omega⟩ hkj nk nj⟩
    by_cases hne:Z9 f i=[]
    ·rw [hne];simp only [Yn,Int.natCast_zero,beq_self_eq_true,cond_true,Y0,Jx.elim];rw [Z3 (by omega)]
     exact ⟨_,rfl,⟨by simp only;omega,by simp only;omega,skip λj _ n _=>n hne⟩,by simp only;omega⟩
    ·have hlp:=List.length_pos_iff.2 hne;rw [Z5p (by omega),cond_false,Z3 (x:=i+m) (by omega),Z3 (x:=i+m+30) (by omega),iMax_eq]
     rcases behind_eq h (i:=i+m) (to':=max (i+m+30) 130) (by omega) (by omega) (by omega) with ⟨k,k1,k2,k3,k4,k5⟩|⟨k1,k2⟩
     ·rw [k5];simp only [Y0,YD,cond_false];obtain ⟨x,x',x1,x2,x3,x4⟩:=ends_at (Z7Z h.lim h.right.shape k) k3;obtain ⟨y',y,y1,y2,y3,y4⟩:=ends_at (Z7Z h.lim h.right.shape i) hne;rw [x1,y2];simp only [Y0];rw [x3,y4];have tk:=Z46 (Z4W h.right.shape (h.fits (i:=k) (by omega))) k3
      have ti:=Z46 (Z4W h.right.shape (h.fits (i:=i) (by omega))) hne
      unfold ZI at tk ti;rw [Z3 (x:=fstT (Z9 f k)-lstT (Z9 f i)) (by omega)]
      have hmin:∀ j,i+m<=j->Z9 f j≠[]->fstT (Z9 f k)<=fstT (Z9 f j):=λj hj nj=>by
       apply h.fst_mono (by omega) _ k3 nj
       by_cases hkj:k<=j
       ·exact hkj
       ·exact absurd (k4 j hj (by omega)) nj
      by_cases hc:((!c)||(decide (fstT (Z9 f k)-lstT (Z9 f i)<b)))=true
      ·rw [hc,cond_true];simp only [Y0,Jx.elim];rw [Z3 (by omega)]
       refine ⟨_,rfl,⟨by simp only;omega,by simp only;omega,⟨λ_=>⟨i,k,k1,hne,k3,rfl⟩,λi' j hi' hj ni nj=>⟨rfl,?_⟩⟩⟩,by simp only;omega⟩
       simp only
       by_cases e:i'=i
       ·subst e;have:=hmin j hj nj;omega
       ·have:=hg.all i' j ⟨hi'.1,by have:=hi'.2;simp only at this;omega⟩ hj ni nj
        simp only at this;rw [this.1,YD,Y0D,decide_eq_true_eq] at hc;omega
      ·have hc':((!c)||(decide (fstT (Z9 f k)-lstT (Z9 f i)<b)))=false:=by simpa using hc
       rw [hc',cond_false];simp only [Y0,Jx.elim];rw [Z3 (by omega)]
       have c1:c=true:=by cases c<;>simp_all
       subst c1;rw [YD,Y0D,decide_eq_false_iff_not] at hc';refine ⟨_,rfl,⟨by simp only;omega,by simp only;omega,⟨hg.yes,λi' j hi' hj ni nj=>⟨rfl,?_⟩⟩⟩,by simp only;omega⟩
       simp only
       by_cases e:i'=i
       ·subst e;have:=hmin j hj nj;omega
       ·exact (hg.all i' j ⟨hi'.1,by have:=hi'.2;simp only at this;omega⟩ hj ni nj).2
     ·rw [k2];simp only [Y0,Yx,cond_true,Jx.elim];rw [Z3 (by omega)]
      refine ⟨_,rfl,⟨by simp only;omega,by simp only;omega,skip λj hj n nj=>?_⟩,by simp only;omega⟩
      obtain ⟨k,a1,a2,a3,a4⟩:=h.window (a:=i+m) (by omega) hj nj
      exact a4 (k1 k a1 a2)
   ·right
    rw [ZH hlt,cond_false];exact ⟨_,rfl,⟨hg.yes,λk j hk=>hg.all k j ⟨hk.1,by have:=hk.2;omega⟩⟩⟩) (0,false,-600) ⟨by simp,by simp,⟨λh=>by (cases h),λi j hi=>by simp only at hi;omega⟩⟩
 unfold Z18
 rw [q1]
 refine ⟨_,rfl,q2.yes,λi j _ hj ni nj=>?_⟩
 obtain ⟨i',j',a1,a2,a3,a4,a5,a6⟩:=h.norm hm hj ni nj
 have:=q2.all i' j' ⟨a1,by omega⟩ a3 a4 a5
 exact ⟨this.1,Int.le_trans this.2 a6⟩
theorem Z9B {f:Form} {m:Int} {b:Int×Bool} (h:GapS f m (λ_=>True) b) (z:Int):Near f m z↔b.2=true/\b.1<=z:=by
 constructor
 ·rintro ⟨i,j,⟨p1,p2,p3⟩,hj⟩;simp only [Y6,if_false] at p3;have:=h.all i j trivial (by omega) p1 p2
  exact ⟨this.1,by omega⟩
 ·rintro ⟨h1,h2⟩;obtain ⟨i,j,a1,a2,a3,a4⟩:=h.yes h1;exact ⟨i,j,⟨a2,a3,by simp only [Y6,if_false];omega⟩,by omega⟩
theorem ZB9 {f:Form} (h:NearF0 f) {m:Int} (hm : -200<=m/\m<=200):∃ d,Z16 f m=some (Z5n d)/\Z36 f m=some (Z5n d)/\LowD f m d:=by
 obtain ⟨b,b1,b2⟩:=gap_eq h hm
 obtain ⟨d,d1,d2⟩:=carry_Low_eq h.lim h.right h.small.few m
 have hfar:farI m=m:=by unfold farI;omega
 rw [hfar] at d2
 refine ⟨d,?_,d1,d2⟩
 obtain ⟨e1,e2,e3,e4⟩:=d2
 unfold Z16
 rw [b1]
 simp only [Y0]
 cases hb:b.2 with
 | false=>
  have:d=1099511627776:=by
   by_cases hd:d<1099511627776
   ·have:=((Z9B b2 d).1 (e4 hd)).1;rw [hb] at this;cases this
   ·omega
  subst this
  rfl
 | true=>
  rw [YD,Y0D]
  by_cases g1:b.1>1099511627776
  ·rw [ZK g1,cond_true];have:d=1099511627776:=by
    by_cases hd:d<1099511627776
    ·have:=((Z9B b2 d).1 (e4 hd)).2;omega
    ·omega
   subst this
   rfl
  ·rw [ZH g1,cond_false];have lower:b.1<=d:=by
    by_cases hd:d<1099511627776
    ·exact ((Z9B b2 d).1 (e4 hd)).2
    ·omega
   by_cases g2:b.1<=-1099511627776
   ·rw [ZK g2,cond_true];have:d = -1099511627776:=by
     by_cases hd : -1099511627776<d
     ·exact absurd ((Z9B b2 _).2 ⟨hb,g2⟩) (e3 (-1099511627776) (by omega) hd)
     ·omega
    subst this
    rfl
   ·rw [ZH g2,cond_false];have:d=b.1:=by
     by_cases hd:b.1<d
     ·exact absurd ((Z9B b2 _).2 ⟨hb,Yi _⟩) (e3 b.1 (by omega) hd)
     ·omega
    unfold Z5n;rw [if_neg (by omega),this]
theorem neg_bound {d:Int} (h : -1099511627776<=d/\d<=1099511627776):(Bound.mk (IntKind.i8.wrap (0-(Z5n d).Inf)) (w64 (0-(Z5n d).N)))=Z8I d:=by
 unfold Z5n Z8I
 by_cases h0:d = -1099511627776
 ·rw [if_pos h0,if_pos h0];decide
 ·rw [if_neg h0,if_neg h0];simp only;rw [Z3 (by omega)]
  have:IntKind.i8.wrap (0-0)=0:=by decide
  rw [this,show 0-d = -d by omega]
theorem Z7O {f:Form} (hl:Lim f):∃ b,ZW f=some b/\(b=true->NearF0 f):=by
 unfold ZW
 obtain ⟨b,e1,i1⟩:=Z9a hl
 rw [e1]
 cases b with
 | false=>exact ⟨false,rfl,nofun⟩
 | true=>
  have hsm:=i1.1 rfl;have hnl:¬ LongF f:=by unfold LongF;have:=hsm.1;have:=hsm.2.1;have:=hsm.2.2;omega
  simp only [Y0,YD,cond_false];rcases Z4C hl with ⟨h,_⟩|⟨_,hr,e2⟩|⟨_,_,e2⟩
  ·exact absurd h hnl
  ·rw [e2];simp only [Y0,bne_self_eq_false,Y0D]
   by_cases hp:f.Period>200
   ·rw [ZK hp];exact ⟨false,rfl,nofun⟩
   rw [ZH hp,cond_false];have hcl:=Z2u (b:=23) hl.core;have hol:=Z2u (b:=31) hl.odd
   have l1:(loopO (ZW.s0 f) 0=some (.go ())/\∀ k l,f.Core[k]? = some l->(l≠[]->-100<=fstT l/\lstT l<=100))\/(loopO (ZW.s0 f) 0=some (.ret false)/\¬ ∀ k l,f.Core[k]? = some l->(l≠[]->-100<=fstT l/\lstT l<=100)) :=
    Z2d (l:=f.Core) (step:=ZW.s0 f) (λ_ l=>l≠[]->-100<=fstT l/\lstT l<=100) (no:=.ret false) (yes:=.go ()) (λk x hk _=>by
     obtain ⟨h1,h2⟩:=Z8Y hk;have hlx:=(hl.sets x (Y7 hk)).1;unfold ZW.s0;rw [ZK h2,cond_true,h1];simp only [Y0];rw [hull_eq hlx];simp only [Y0];rw [Z3 (by omega)]
     by_cases hx:x=[]
     ·rw [if_pos hx];exact .inl ⟨rfl,λh=>absurd hx h⟩
     ·rw [if_neg hx];simp only [Y0q]
      by_cases hb:fstT x < -100\/lstT x>100
      ·have:(decide (fstT x < -100)||decide (lstT x>100))=true:=by simpa using hb
       rw [this];exact .inr ⟨rfl,λh=>by have:=h hx;omega⟩
      ·have:(decide (fstT x < -100)||decide (lstT x>100))=false:=by simp;omega
       rw [this];exact .inl ⟨rfl,λ_=>by omega⟩) (by unfold ZW.s0;rw [ZH (by omega)];rfl)
   rcases l1 with ⟨l1,l2⟩|⟨l1,_⟩
   ·rw [l1];simp only [Y0,Jx.elim];have m1:(loopO (ZW.s1 f) 0=some (.go ())/\∀ (k:Nat) (g:Granule),f.Odd[k]? = some g->(-100<=g.Index/\g.Index<=100))\/(loopO (ZW.s1 f) 0=some (.ret false)/\¬ ∀ (k:Nat) (g:Granule),f.Odd[k]? = some g->(-100<=g.Index/\g.Index<=100)) :=
     Z2d (l:=f.Odd) (step:=ZW.s1 f) (λ_ (g:Granule)=>-100<=g.Index/\g.Index<=100) (no:=.ret false) (yes:=.go ()) (λk x hk _=>by
      obtain ⟨h1,h2⟩:=Z8Y hk;unfold ZW.s1;rw [ZK h2,cond_true,h1];simp only [Y0];rw [Z3 (by omega)]
      by_cases hb:x.Index < -100\/x.Index>100
      ·have:(decide (x.Index < -100)||decide (x.Index>100))=true:=by simpa using hb
       rw [this];exact .inr ⟨rfl,λh=>by omega⟩
      ·have:(decide (x.Index < -100)||decide (x.Index>100))=false:=by simp;omega
       rw [this];exact .inl ⟨rfl,by omega⟩) (by unfold ZW.s1;rw [ZH (by omega)];rfl)
    rcases m1 with ⟨m1,m2⟩|⟨m1,_⟩
    ·rw [m1];refine ⟨true,rfl,λ_=>⟨hl,hr,hsm,by omega,λl hm=>?_,λg hm=>?_⟩⟩
     ·obtain ⟨k,hk⟩:=YC hm;exact l2 k l hk
     ·obtain ⟨k,hk⟩:=YC hm;exact m2 k g hk
    ·rw [m1];exact ⟨false,rfl,nofun⟩
   ·rw [l1];exact ⟨false,rfl,nofun⟩
  ·rw [e2];exact ⟨false,rfl,nofun⟩
end Go.Dn

namespace Go.Dn
open Go
def bareF (f:Form):Form:=Form.mk f.Period f.Count f.Core []
def Bears (f:Form) (i t:Int):Prop:=ZI i/\fits f i/\∃ s∈Z9 f i,s.From<=t/\t<=s.To
theorem Bears.ends {f:Form} (hs:Shape f) {i t:Int} (h:Bears f i t):Z9 f i≠[]/\fstT (Z9 f i)<=t/\t<=lstT (Z9 f i)/\ZI t:=by
 obtain ⟨h1,h2,s,h3,h4,h5⟩:=h
 have hr:=Z4W hs h2
 have hn:Z9 f i≠[]:=λe=>by rw [e] at h3;cases h3
 obtain ⟨k,hk,he⟩:=Y0M h3
 have hlt:=hk
 have key:fstT (Z9 f i)<=s.From/\s.To<=lstT (Z9 f i):=by
  have h0:∀ (l:List Span),RightL l->∀ (s:Span),s∈l->fstT l<=s.From/\s.To<=lstT l:=by
   intro l
   induction l with
   | nil=>intro _ s hs;cases hs
   | cons a l ih=>
    intro hr s hs;have ha:=hr.ok 0 a rfl;have e1:fstT (a::l)=a.From:=rfl
    cases l with
    | nil=>
     rw [YM] at hs;subst hs;exact ⟨by rw [e1];omega,by show s.To<=s.To;omega⟩
    | cons b l=>
     have hg:=hr.gap 0 a b rfl rfl;have e2:lstT (a::b::l)=lstT (b::l):=by unfold lstT;rw [List.getLast?_cons_cons]
     have hrt:=hr.tail;rcases List.mem_cons.1 hs with rfl|hs
     ·have:=ih hrt b (by simp)
      have hb:=hrt.ok 0 b rfl;refine ⟨by rw [e1];omega,by rw [e2];omega⟩
     ·have:=ih hrt s hs;have e3:fstT (b::l)=b.From:=rfl;rw [e3] at this;refine ⟨by rw [e1];omega,by rw [e2];exact this.2⟩
  exact h0 _ hr s h3
 have hl:=Z46 hr hn
 unfold ZI at *
 exact ⟨hn,by omega,by omega,by omega⟩
end Go.Dn

namespace Go.Dn
open Go
section
variable {f:Form} {i k x y:Int}
end
end Go.Dn

namespace Go.Dn
open Go
end Go.Dn

namespace Go.Dn
open Go
theorem ZDu {α:Type} {l:List α} {p:α->Bool} {step:Int->Option (Int⊕Jx Unit Int)} (hl:(l.length:Int)<4611686018427387904)
  (hstep:∀ (k:Nat) (hk:k<l.length),step (k:Int)=if p l[k]=true then some (.inr (.ret (k:Int))) else some (.inl (w64 ((k:Int)+1)))) (hend:step (l.length:Int)=some (.inr (.go ()))) :
  (loopO step 0=some (.go ())/\∀ x∈l,p x=false)\/(∃ k:Nat,loopO step 0=some (.ret (k:Int))/\∃ x∈l,p x=true):=by
 obtain ⟨r,h1,h2⟩:=Z0R (step:=step) (I:=λs=>∃ k:Nat,s=(k:Int)/\k<=l.length/\∀ j (hj:j<l.length),j<k->p l[j]=false) (λs=>l.length-s.toNat)
  (λr=>(r = .go ()/\∀ x∈l,p x=false)\/∃ k:Nat,r = .ret (k:Int)/\∃ x∈l,p x=true) (by
  rintro s ⟨k,rfl,hk,hj⟩
  by_cases hlt:k<l.length
  ·rw [hstep k hlt]
   by_cases hp:p l[k]=true
   ·rw [if_pos hp];exact .inr ⟨_,rfl,.inr ⟨k,rfl,_,YE hlt,hp⟩⟩
   ·rw [if_neg hp];refine .inl ⟨_,rfl,⟨k+1,by rw [Z3 (by omega)];push_cast;rfl,hlt,λj hjl hjk=>?_⟩,by rw [Z3 (by omega)];omega⟩
    rcases YL j k with h|h
    ·exact hj j hjl h
    ·have:j=k:=by omega
     subst this
     simpa using hp
  ·have:k=l.length:=by omega
   subst this;refine .inr ⟨_,hend,.inl ⟨rfl,λx hx=>?_⟩⟩;obtain ⟨j,hjl,rfl⟩:=Y0M hx;exact hj j hjl hjl) 0 ⟨0,rfl,YI _,λj _ h=>by omega⟩
 rcases h2 with ⟨rfl,h⟩|⟨k,rfl,h⟩
 ·exact .inl ⟨h1,h⟩
 ·exact .inr ⟨k,h1,h⟩
theorem Z5m {l:List Form} {f:Form->Option Bool} {p:Form->Bool} (hl:(l.length:Int)<4611686018427387904) (hf:∀ x∈l,f x=some (p x)):∃ b,Zs l f=some b/\(b=true ↔ ∃ x∈l,p x=true):=by
 unfold Zs ZN
 rcases ZDu (l:=l) (p:=p) (step:=ZN.s0 l f) hl (λk hk=>by
  unfold ZN.s0;rw [ZK (show (k:Int)<l.length by omega),cond_true,at?_nat hk]
  simp only [Y0];rw [hf _ (YE hk)];simp only [Y0,pickB]) (by
  unfold ZN.s0;rw [ZH (by omega),cond_false]) with ⟨e,h⟩|⟨k,e,h⟩
 ·rw [e];refine ⟨false,rfl,?_⟩;simp only [Y6,false_iff,not_exists,not_and,Yk];exact h
 ·rw [e];simp only [Y0,Jx.elim];exact ⟨true,by rw [ZK (show (k:Int)>=0 by omega)],by simpa using h⟩
theorem Z6K {l:List Con} {f:Con->Option Bool} {p:Con->Bool} (hl:(l.length:Int)<4611686018427387904) (hf:∀ x∈l,f x=some (p x)):∃ b,Z05 l f=some b/\(b=true ↔ ∃ x∈l,p x=true):=by
 unfold Z05 ZR
 rcases ZDu (l:=l) (p:=p) (step:=ZR.s0 l f) hl (λk hk=>by
  unfold ZR.s0;rw [ZK (show (k:Int)<l.length by omega),cond_true,at?_nat hk]
  simp only [Y0];rw [hf _ (YE hk)];simp only [Y0,pickB]) (by
  unfold ZR.s0;rw [ZH (by omega),cond_false]) with ⟨e,h⟩|⟨k,e,h⟩
 ·rw [e];refine ⟨false,rfl,?_⟩;simp only [Y6,false_iff,not_exists,not_and,Yk];exact h
 ·rw [e];simp only [Y0,Jx.elim];exact ⟨true,by rw [ZK (show (k:Int)>=0 by omega)],by simpa using h⟩
structure RightN (n:Net):Prop where
 vars:0<=n.Vars/\n.Vars<=24
 forms:∀ f∈n.Forms,Lim f/\RightF f
 cons:∀ c∈n.Cons,(0<=c.X/\c.X<n.Vars)/\(0<=c.Y/\c.Y<n.Vars)/\(0<=c.Form/\c.Form<n.Forms.length)
 few:n.Cons.length<=200
theorem Z2Y {i m:Int}:Z0b i m=true↔0<=i/\i<m:=by
 unfold Z0b
 simp
theorem net_lim {n:Net} (h:n.ok):(∀ f∈n.Forms,Lim f)/\(n.Forms.length:Int)<4611686018427387904/\(n.Cons.length:Int)<4611686018427387904:=by
 obtain ⟨_,h2,h3⟩:=h
 refine ⟨λf hf=>Form.lim (h2.2 f hf),?_,?_⟩
 ·have:=h2.1;have:=Z1i;omega
 ·have:=h3.1;have:=Z1i;omega
theorem tag_Right_eq {n:Net} (hn:n.ok):∃ e,Z2H n=some e/\(e=0->RightN n):=by
 obtain ⟨hf,l1,l2⟩:=net_lim hn
 unfold Z2H
 cases c1:Z0b n.Vars 25 with
 | false=>exact ⟨230,rfl,λh=>absurd h (by decide)⟩
 | true=>
 simp only [YD,cond_false]
 cases c2:decide ((n.Forms.length:Int)>20) with
 | true=>exact ⟨230,rfl,λh=>absurd h (by decide)⟩
 | false=>
 simp only [cond_false,Y0]
 cases c3:decide ((n.Cons.length:Int)>200) with
 | true=>exact ⟨230,rfl,λh=>absurd h (by decide)⟩
 | false=>
 simp only [cond_false]
 have hfr:∀ f∈n.Forms,Z1H f=some ((Z09 f).getD 0 != 0):=λf hm=>by
  unfold Z1H;rcases Z4C (hf f hm) with ⟨q,h⟩|⟨q,r,h⟩|⟨q,r,h⟩<;>rw [h]<;>rfl
 obtain ⟨b1,e1,i1⟩:=Z5m (l:=n.Forms) (f:=λz0=>Z1H z0) (p:=λf=>(Z09 f).getD 0 != 0) l1 hfr
 obtain ⟨b2,e2,i2⟩:=Z6K (l:=n.Cons) (f:=λz0=>some (Z0m z0 n)) (p:=λc=>Z0m c n) l2 (λ_ _=>rfl)
 rw [e1]
 simp only [Y0]
 cases b1 with
 | true=>exact ⟨230,rfl,λh=>absurd h (by decide)⟩
 | false=>
 simp only [cond_false]
 rw [e2]
 simp only [Y0]
 cases b2 with
 | true=>exact ⟨230,rfl,λh=>absurd h (by decide)⟩
 | false=>
 refine ⟨0,rfl,λ_=>?_⟩
 have v:=Z2Y.1 c1
 refine ⟨by omega,λf hm=>⟨hf f hm,?_⟩,λc hm=>?_,by have:=of_decide_eq_false c3;omega⟩
 ·apply Classical.byContradiction;intro hnr;have:(false:Bool)=true:=i1.2 ⟨f,hm,by
   rcases Z4C (hf f hm) with ⟨q,h⟩|⟨q,r,h⟩|⟨q,r,h⟩
   ·rw [h];rfl
   ·exact absurd r hnr
   ·rw [h];rfl⟩
  cases this
 ·cases hc:Z0m c n with
  | true=>have:=i2.2 ⟨c,hm,hc⟩;cases this
  | false=>
   unfold Z0m Z3n at hc;simp only [Bool.not_eq_false',Y8] at hc;exact ⟨Z2Y.1 hc.1.1.1,Z2Y.1 hc.1.1.2,Z2Y.1 hc.1.2⟩
theorem few_eq {n:Net} (hn:n.ok):∃ b,Zh n=some b/\(b=true->RightN n/\n.Cons.length<=8/\n.Vars<=8):=by
 obtain ⟨hf,l1,l2⟩:=net_lim hn
 unfold Zh
 cases c1:((decide ((n.Forms.length:Int)>4)||decide ((n.Cons.length:Int)>8))||decide (n.Vars>8)) with
 | true=>exact ⟨false,rfl,nofun⟩
 | false=>
 simp only [Y0W,decide_eq_false_iff_not] at c1
 simp only [cond_false]
 obtain ⟨r,e1,_⟩:=Z0R (step:=Zh.s0 n) (I:=λs=>∃ k:Nat,s=(k:Int)/\k<=n.Forms.length) (λs=>n.Forms.length-s.toNat) (λr=>r = .go ()\/r = .ret false) (by
  rintro s ⟨k,rfl,hk⟩;unfold Zh.s0
  by_cases hlt:k<n.Forms.length
  ·rw [ZK (show (k:Int)<n.Forms.length by omega),cond_true,at?_nat hlt]
   simp only [Y0];obtain ⟨b,e,_⟩:=Z7O (hf _ (YE hlt))
   rw [e];simp only [Y0];cases b with
   | false=>exact .inr ⟨_,rfl,.inr rfl⟩
   | true=>exact .inl ⟨_,rfl,⟨k+1,by rw [Z3 (by omega)];push_cast;rfl,hlt⟩,by rw [Z3 (by omega)];omega⟩
  ·rw [ZH (show ¬ (k:Int)<n.Forms.length by omega),cond_false]
   exact .inr ⟨_,rfl,.inl rfl⟩) 0 ⟨0,rfl,YI _⟩
 rw [e1]
 simp only [Y0]
 rename_i hr
 rcases hr with rfl|rfl
 ·simp only [Jx.elim];obtain ⟨e,e2,h2⟩:=tag_Right_eq hn;rw [e2];simp only [Y0];refine ⟨_,rfl,λh=>⟨h2 (eq_of_beq h),?_,?_⟩⟩<;>omega
 ·exact ⟨false,rfl,nofun⟩
def badFrom (m:Con->Bool):List Con->Nat->List Int
 | [],_=>[]
 | c::l,j=>if m c=true then badFrom m l (j+1) else (j:Int)::badFrom m l (j+1)
section
variable {n:Net} {ts:List Int} {m:Con->Bool}
noncomputable def metB (n:Net) (ts:List Int) (c:Con):Bool:=(tag_met n c ts).getD false
end
noncomputable def partsRest (n:Net) (cut:Int) (x6:List Int):Option Bool :=
   (nz? (w64 ((n.Cons.length:Int)+1))).bind λu1=>
   (cut? n.Cons 0 ((w64 cut).tmod (w64 ((n.Cons.length:Int)+1)))).bind λx7=>
   (cut? n.Cons ((w64 cut).tmod (w64 ((n.Cons.length:Int)+1))) (n.Cons.length:Int)).bind λx8=>
   (Z3A (Net.mk n.Vars n.Forms x7) x6).bind λx9=>
   (Z3A (Net.mk n.Vars n.Forms x8) x6).bind λx10=>
   (Z3A n x6).bind λx11=>
   (bif ((x9.2 != x10.2)||(x9.2 != x11.2)) then
    some false
   else
    (loopO (Z0z.s1 n cut x10) (0,x9.1)).bind λ(y2:(List Int))=>
    (Z3Q y2 x11.1).bind λx14=>
    (
     (bif x14 then
      (Z1r n x6).bind λx15=>
      some (x15==((x9.2==0)&&((x11.1.length:Int)==0)))
     else
      some false)).bind λ(y3:Bool)=>
    (
     (bif y3 then
      (Z1r n x6).bind λx16=>
      (Z1r (Net.mk n.Vars n.Forms x7) x6).bind λx17=>
      (
       (bif x17 then
        (Z1r (Net.mk n.Vars n.Forms x8) x6).bind λx18=>
        some x18
       else
        some false)).bind λ(y5:Bool)=>
      some (x16==y5)
     else
      some false)).bind λ(y4:Bool)=>
    some (y4&&Z3o))
end Go.Dn

namespace Go.Dn
open Go
def bd:Option Int->Bound
 | none=>⟨1,0⟩
 | some k=>⟨0,k⟩
def ole (a b:Option Int):Prop:=match b with
 | none=>True
 | some k=>match a with
  | none=>False
  | some l=>l<=k
def oadd (a b:Option Int):Option Int:=match a,b with
 | some x,some y=>some (x+y)
 | _,_=>none
def omin (a b:Option Int):Option Int:=match a,b with
 | none,b=>b
 | a,none=>a
 | some x,some y=>some (if x<y then x else y)
def olt (a b:Option Int):Bool:=match a,b with
 | none,_=>false
 | some _,none=>true
 | some x,some y=>decide (x<y)
def inB (B:Int) (a:Option Int):Prop:=match a with
 | none=>True
 | some x=>-B<=x/\x<=B
theorem Z20 (a:Option Int):ole a a:=by cases a<;>simp [ole]
theorem Z1R {a b c:Option Int} (h1:ole a b) (h2:ole b c):ole a c:=by
 cases a<;>cases b<;>cases c<;>simp [ole] at *<;>omega
theorem Z61 {a b c d:Option Int} (h1:ole a c) (h2:ole b d):ole (oadd a b) (oadd c d):=by
 cases a<;>cases b<;>cases c<;>cases d<;>simp [ole,oadd] at *<;>omega
theorem ole_min {a b c:Option Int} (h1:ole c a) (h2:ole c b):ole c (omin a b):=by
 cases a<;>cases b<;>cases c<;>simp [ole,omin] at *<;>(try split)<;>omega
theorem omin_l (a b:Option Int):ole (omin a b) a:=by
 cases a<;>cases b<;>simp [ole,omin]<;>(try split)<;>omega
theorem omin_r (a b:Option Int):ole (omin a b) b:=by
 cases a<;>cases b<;>simp [ole,omin]<;>(try split)<;>omega
theorem omin_or (a b:Option Int):omin a b=a\/omin a b=b:=by
 cases a<;>cases b<;>simp [omin]<;>omega
theorem Z9P (a b:Option Int):omin a b=if olt a b=true then a else b:=by
 cases a<;>cases b<;>simp [omin,olt]
 split<;>rfl
theorem omin_self {a b:Option Int} (h:ole a b):omin a b=a:=by
 cases a<;>cases b<;>simp [omin,ole] at *<;>omega
theorem oadd_zero (a:Option Int):oadd a (some 0)=a:=by cases a<;>simp [oadd]
theorem ZBb (a:Option Int):oadd (some 0) a=a:=by cases a<;>simp [oadd]
theorem Z6b (a b c:Option Int):oadd (oadd a b) c=oadd a (oadd b c):=by
 cases a<;>cases b<;>cases c<;>simp [oadd,Int.add_assoc]
theorem inB_add {B:Int} {a b:Option Int} (h1:inB B a) (h2:inB B b):inB (2*B) (oadd a b):=by
 cases a<;>cases b<;>simp [inB,oadd] at *<;>omega
theorem Z6g {B C:Int} {a:Option Int} (h:inB B a) (hc:B<=C):inB C a:=by
 cases a<;>simp [inB] at *<;>omega
theorem inB_min {B:Int} {a b:Option Int} (h1:inB B a) (h2:inB B b):inB B (omin a b):=by
 rcases omin_or a b with h|h<;>rw [h]<;>assumption
theorem less_bd (a b:Option Int):Z0j (bd a) (bd b)=olt a b:=by
 cases a with
 | none=>cases b<;>simp [bd,olt,Z0j,ZO]
 | some x=>
  cases b with
  | none=>simp [bd,olt,Z0j,ZO]
  | some y=>rfl
theorem sum_bd {a b:Option Int} {B:Int} (hB:B<=2305843009213693952) (h1:inB B a) (h2:inB B b):Z0K (bd a) (bd b)=(bd (oadd a b),0):=by
 cases a with
 | none=>cases b<;>simp [bd,oadd,Z0K,ZO]
 | some x=>
  cases b with
  | none=>simp [bd,oadd,Z0K,ZO]
  | some y=>
   simp only [inB] at h1 h2;have e:Zc x y=(x+y,0):=by
    rw [Z8l (by unfold In64;omega) (by unfold In64;omega),fitS_of (by unfold In64;omega)]
   simp [bd,oadd,Z0K,ZO,e]
theorem less_zero (a:Option Int):Z0j (bd a) (Bound.mk 0 0)=olt a (some 0):=less_bd a (some 0)
theorem may_bd {a:Option Int} (h:inB 1125899906842624 a):Z6u (bd a)=true:=by
 cases a with
 | none=>rfl
 | some x=>
  simp only [inB] at h;unfold Z6u bd;simp only [];rw [ZK (p:=x>=_) (by omega),ZK (p:=x<=_) (by omega)]
  rfl
theorem subF {a b:Int} (ha:In64 a) (hb:In64 b):Z13 a b=fitS (a-b):=by
 unfold In64 at ha hb
 unfold Z13 fitS w64
 rw [Z6E]
 cases h:((decide ((a-b+9223372036854775808) % 18446744073709551616-9223372036854775808<a) != decide (b>0))&&b != 0)
 ·rw [cond_false];simp only [Y0a,bne_eq_false_iff_eq,decide_eq_decide] at h
  split<;>simp only [Y3,and_true]<;>omega
 ·rw [cond_true];simp only [Y8,bne_iff_ne,ne_eq,decide_eq_decide] at h
  split<;>simp only [Y3]<;>omega
def rowM (n:Nat) (M:Nat->Nat->Option Int) (i:Nat):List Bound:=(List.range n).map λj=>bd (M i j)
def Mat (n:Nat) (M:Nat->Nat->Option Int):List (List Bound):=(List.range n).map λi=>rowM n M i
def updM (M:Nat->Nat->Option Int) (i j:Nat) (v:Option Int):Nat->Nat->Option Int:=λa b=>if a=i/\b=j then v else M a b
section
variable {n:Nat} {M A:Nat->Nat->Option Int}
theorem Z3L:(Mat n M).length=n:=by simp [Mat]
theorem Z7V {i:Nat}:(rowM n M i).length=n:=by simp [rowM]
theorem Z2y {i:Nat} (h:i<n):at? (Mat n M) (i:Int)=some (rowM n M i):=by
 rw [at?_nat (by rw [Z3L];exact h)];simp [Mat]
theorem Z2O {i j:Nat} (h:j<n):at? (rowM n M i) (j:Int)=some (bd (M i j)):=by
 rw [at?_nat (by rw [Z7V];exact h)];simp [rowM]
theorem Z5L (h:∀ i j,i<n->j<n->M i j=A i j):Mat n M=Mat n A:=by
 unfold Mat rowM
 apply List.map_congr_left
 intro i hi
 apply List.map_congr_left
 intro j hj
 rw [h i j (by simpa using hi) (by simpa using hj)]
theorem Mat_set {i j:Nat} (v:Option Int):(Mat n M).set i ((rowM n M i).set j (bd v))=Mat n (updM M i j v):=by
 apply List.ext_getElem
 ·simp [Mat]
 ·intro a h1 h2;have ha:a<n:=by simpa [Mat] using h2
  rw [List.getElem_set]
  by_cases hai:i=a
  ·subst hai;rw [if_pos rfl];apply List.ext_getElem
   ·simp [Mat,rowM]
   ·intro b g1 g2;rw [List.getElem_set]
    by_cases hbj:j=b
    ·subst hbj;simp [Mat,rowM,updM]
    ·rw [if_neg hbj];simp [Mat,rowM,updM,Ne.symm hbj]
  ·rw [if_neg hai];simp [Mat,rowM,updM,Ne.symm hai]
theorem Mat_set' {i j:Nat} (v:Option Int):(Mat n M).set ((i:Int)).toNat ((rowM n M i).set ((j:Int)).toNat (bd v))=Mat n (updM M i j v):=Mat_set v
end
theorem repeat_eq {n:Nat} (h1:1<=n) (h2:n<=24) (a:Bound):ZP [a] (n:Int)=some (List.replicate n a):=by
 have hmul:Za (IntKind.u64.wrap (([a] : List Bound).length:Int)) (IntKind.u64.wrap (n:Int))=(0,(n:Int)):=by
  have e1:IntKind.u64.wrap (([a] : List Bound).length:Int)=1:=by rw [Z5U];rfl
  have e2:IntKind.u64.wrap (n:Int)=n:=by rw [Z5U];omega
  rw [e1,e2];unfold Za;rw [mul64_eq (by unfold Z8T;omega) (by unfold Z8T;omega)]
  simp only [Y3];omega
 unfold ZP
 rw [ZH (by omega),cond_false,hmul]
 simp only []
 rw [ZH (by omega),ZH (by omega),Y14,cond_false,Z3 (by omega)]
 have hnew:new? 16 (n:Int) (Bound.mk 0 0)=some (List.replicate n ⟨0,0⟩):=by
  unfold new?;rw [if_pos ⟨by omega,by rw [Z2z];omega⟩,YH]
 rw [hnew,Y0]
 have hcp:cpy (List.replicate n (⟨0,0⟩ : Bound)) [a]=a::List.replicate (n-1) ⟨0,0⟩:=by
  unfold cpy;rw [Y0T,Y05,Nat.min_eq_left h1,List.drop_replicate]
  rfl
 have hmin:(min ([a] : List Bound).length (List.replicate n (⟨0,0⟩ : Bound)).length:Nat)=1:=by
  rw [Y0T,Y05,Nat.min_eq_left h1]
 rw [hcp,hmin]
 have key:=Z0B (step:=ZP.s0 [a] (n:Int)) (I:=λs r=>r=List.replicate n a/\∃ p:Nat,s.1=(p:Int)/\1<=p/\p<=n/\s.2.length=n/\s.2.take p=List.replicate p a) (λs=>n-s.1.toNat) ?_ (s:=(((1:Nat):Int),a::List.replicate (n-1) ⟨0,0⟩)) (r:=List.replicate n a) ⟨rfl,1,rfl,YB _,h1,by simp;omega,rfl⟩
 ·rw [key];rfl
 ·rintro ⟨s1,xs⟩ r ⟨rfl,p,hp,hp1,hpn,hlen,htake⟩;simp only at hp hlen htake;subst hp;unfold ZP.s0;rw [hmul];simp only [hlen]
  by_cases hlt:p<n
  ·rw [ZK (by omega),cond_true,Z3 (x:=(n:Int)) (by omega),YH,YH]
   have w1:winA (p:Int) n=some ():=if_pos ⟨by omega,by omega⟩
   have w2:winB (p:Int) n=some ():=if_pos ⟨by omega,by omega⟩
   rw [w1,w2,Y0,Y0];refine .inl ⟨_,rfl,⟨trivial,p+min p (n-p),?_,by omega,by omega,?_,?_⟩,?_⟩
   ·rw [Z3 (by omega)];push_cast;rfl
   ·simp only [dbl,YR,YN,Y0A,hlen];omega
   ·have hd:dbl xs p=List.replicate p a++List.replicate (min p (n-p)) a++xs.drop (p+min p (n-p)):=by
     unfold dbl;rw [htake,hlen,List.take_replicate,Nat.min_comm (n-p) p]
    simp only [hd];rw [List.replicate_append_replicate,Y0V (by simp),Y0K (by simp)]
   ·simp only [YH];rw [Z3 (by omega)]
    omega
  ·have hpe:p=n:=by omega
   subst hpe;rw [ZH (by omega),cond_false]
   refine .inr ?_;rw [Y0K (by omega)] at htake
   rw [htake]
end Go.Dn

namespace Go.Dn
open Go
def newM:Nat->Nat->Option Int:=λa b=>if a=b then some 0 else none
def BdM (n:Nat) (M:Nat->Nat->Option Int) (B:Int):Prop:=∀ i j,i<n->j<n->inB B (M i j)
theorem stp_New_eq {n:Nat} (h1:1<=n) (h2:n<=24):Z4F (n:Int)=some (Mat n newM,0):=by
 unfold Z4F
 rw [ZH (by omega),ZH (by omega),Y14,cond_false]
 have hnew:new? 24 (n:Int) ([] : List Bound)=some (List.replicate n []):=by
  unfold new?;rw [if_pos ⟨by omega,by rw [Z2z];omega⟩,YH]
 rw [hnew,Y0]
 have key:=Z0B (step:=Z4F.s0 (n:Int)) (I:=λs r=>r=Mat n newM/\∃ p:Nat,s.1=(p:Int)/\p<=n/\s.2.length=n/\∀ a,a<p->s.2[a]? = some (rowM n newM a)) (λs=>n-s.1.toNat) ?_ (s:=(0,List.replicate n [])) (r:=Mat n newM) ⟨rfl,0,rfl,YI _,by simp,λa ha=>absurd ha (Y0P _)⟩
 ·rw [key];rfl
 ·rintro ⟨s1,L⟩ r ⟨rfl,p,hp,hpn,hlen,hL⟩;simp only at hp hlen hL;subst hp;unfold Z4F.s0;simp only []
  by_cases hlt:p<n
  ·rw [ZK (by omega),cond_true,repeat_eq h1 h2,Y0,at?_nat (by omega),Y0,YH,at?_nat (by rw [Yw];omega),Y0,List.getElem_set_self]
   rw [at?_nat (by simpa using hlt),Y0]
   refine .inl ⟨_,rfl,⟨trivial,p+1,?_,by omega,?_,?_⟩,?_⟩
   ·simp only [];rw [Z3 (by omega)];push_cast;rfl
   ·simp [hlen]
   ·intro a ha;simp only [List.getElem?_set]
    by_cases hap:p=a
    ·subst hap;rw [if_pos rfl,if_pos (by simp;omega)]
     congr 1
     apply List.ext_getElem
     ·simp [rowM]
     ·intro b g1 g2;rw [List.getElem_set]
      by_cases hb:p=b
      ·subst hb;simp [rowM,newM,bd]
      ·rw [if_neg hb];simp [rowM,newM,bd,hb]
    ·rw [if_neg hap,if_neg hap];exact hL a (by omega)
   ·simp only [];rw [Z3 (by omega)];omega
  ·have hpe:p=n:=by omega
   subst hpe;rw [ZH (by omega),cond_false]
   refine .inr ?_;have e:L=Mat p newM:=by
    apply List.ext_getElem?;intro a
    by_cases ha:a<p
    ·rw [hL a ha];simp [Mat,ha]
    ·rw [YZ (by omega),YZ (by rw [Z3L];omega)]
   rw [e]
theorem findB_none {s:List Bound} {f:Bound->Option Bool} (hs:(s.length:Int)<4611686018427387904) (h:∀ x∈s,f x=some false):Zl s f=some false:=by
 unfold Zl ZL
 have key:=Z0B (step:=ZL.s0 s f) (I:=λ(i:Int) r=>r = .go ()/\∃ k:Nat,i=k/\k<=s.length) (λi=>s.length-i.toNat) ?_ (s:=0) (r:=.go ()) ⟨rfl,0,rfl,YI _⟩
 ·rw [key];rfl
 ·rintro i r ⟨rfl,k,rfl,hk⟩;unfold ZL.s0
  by_cases hlt:k<s.length
  ·rw [ZK (by omega),cond_true,at?_nat hlt,Y0,h _ (YE hlt)]
   refine .inl ⟨_,rfl,⟨rfl,k+1,by rw [Z3 (by omega)];push_cast;rfl,hlt⟩,by rw [Z3 (by omega)];omega⟩
  ·rw [ZH (by omega),cond_false];exact .inr rfl
theorem findR_none {s:List (List Bound)} {f:List Bound->Option Bool} (hs:(s.length:Int)<4611686018427387904) (h:∀ x∈s,f x=some false):Zi s f=some false:=by
 unfold Zi ZE
 have key:=Z0B (step:=ZE.s0 s f) (I:=λ(i:Int) r=>r = .go ()/\∃ k:Nat,i=k/\k<=s.length) (λi=>s.length-i.toNat) ?_ (s:=0) (r:=.go ()) ⟨rfl,0,rfl,YI _⟩
 ·rw [key];rfl
 ·rintro i r ⟨rfl,k,rfl,hk⟩;unfold ZE.s0
  by_cases hlt:k<s.length
  ·rw [ZK (by omega),cond_true,at?_nat hlt,Y0,h _ (YE hlt)]
   refine .inl ⟨_,rfl,⟨rfl,k+1,by rw [Z3 (by omega)];push_cast;rfl,hlt⟩,by rw [Z3 (by omega)];omega⟩
  ·rw [ZH (by omega),cond_false];exact .inr rfl
theorem stp_Right_mat {n:Nat} {M:Nat->Nat->Option Int} (h2:n<=24) (hB:BdM n M 1125899906842624):Z3w (Mat n M)=some true:=by
 unfold Z3w
 rw [Z3L,ZK (by omega),cond_true,findR_none (by rw [Z3L];omega)]
 ·rfl
 ·intro row hrow;simp only [Mat,List.mem_map,Y0w] at hrow;obtain ⟨i,hi,rfl⟩:=hrow;unfold Z4a;rw [Z7V,bne_f rfl,cond_false,findB_none (by rw [Z7V];omega)]
  ·rfl
  ·intro b hb;simp only [rowM,List.mem_map,Y0w] at hb;obtain ⟨j,hj,rfl⟩:=hb;unfold Z5T;rw [may_bd (hB i j hi hj)];rfl
theorem stp_own_mat {n:Nat} {M:Nat->Nat->Option Int} (h1:1<=n) (h2:n<=24):Z73 (Mat n M)=some (Mat n M):=by
 unfold Z73
 have ne:∀ {α:Type} {l:List α},l.length=n->l.isEmpty=false:=by
  intro α l hl;cases l with
  | nil=>simp at hl;omega
  | cons a b=>rfl
 have hr:=Z2z
 rw [ne Z3L,Z3L,ZK (by omega)]
 have:((Mat n M).all λq=>!q.isEmpty&&decide (q.length*16<=room))=true:=by
  rw [YG];intro q hq;simp only [Mat,List.mem_map,Y0w] at hq;obtain ⟨i,hi,rfl⟩:=hq;rw [ne Z7V,Z7V,ZK (by omega)];rfl
 rw [this];rfl
def setM (M:Nat->Nat->Option Int) (i j:Nat) (v:Option Int):Nat->Nat->Option Int:=updM M i j (omin v (M i j))
theorem setM_bd {n i j:Nat} {M:Nat->Nat->Option Int} {v:Option Int} {B:Int} (hB:BdM n M B) (hi:i<n) (hj:j<n) (hv:inB B v):BdM n (setM M i j v) B:=by
 intro a b ha hb
 unfold setM updM
 split
 ·exact inB_min hv (hB i j hi hj)
 ·exact hB a b ha hb
def goodSet (n:Nat) (x:epactlaw24_Set):Prop:=∃ (i j:Nat) (v:Option Int),i<n/\j<n/\inB 1000 v/\x=⟨i,j,bd v⟩
theorem newM_bd (n:Nat):BdM n newM 1000:=by
 intro i j _ _
 unfold newM
 split
 ·exact ⟨by omega,by omega⟩
 ·trivial
end Go.Dn

namespace Go.Dn
open Go
abbrev MF:=Nat->Nat->Option Int
def leM (n:Nat) (A M:MF):Prop:=∀ i j,i<n->j<n->ole (A i j) (M i j)
def TriM (n k:Nat) (A:MF):Prop:=∀ m,m<k->∀ i j,i<n->j<n->ole (A i j) (oadd (A i m) (A m j))
def DiagM (n:Nat) (A:MF):Prop:=∀ i,i<n->A i i=some 0
def fw (M:MF) (k:Nat):MF:=λi j=>omin (oadd (M i k) (M k j)) (M i j)
theorem fw_row {M:MF} {k j:Nat} (h:M k k=some 0):fw M k k j=M k j:=by
 unfold fw;rw [h,ZBb];exact omin_self (Z20 _)
theorem fw_col {M:MF} {k i:Nat} (h:M k k=some 0):fw M k i k=M i k:=by
 unfold fw;rw [h,oadd_zero];exact omin_self (Z20 _)
theorem fw_le (M:MF) (k i j:Nat):ole (fw M k i j) (M i j):=omin_r _ _
theorem fw_tri {n k:Nat} {M:MF} (hk:k<n) (hd:M k k=some 0) (ht:TriM n k M):TriM n (k+1) (fw M k):=by
 intro m hm i j hi hj
 by_cases hmk:m=k
 ·subst hmk;rw [fw_row hd,fw_col hd];exact omin_l _ _
 ·have hm':m<k:=by omega
  have T:=ht m hm';have t1:fw M k i m=oadd (M i k) (M k m)\/fw M k i m=M i m:=omin_or _ _;have t2:fw M k m j=oadd (M m k) (M k j)\/fw M k m j=M m j:=omin_or _ _;have hz:ole (some 0) (oadd (M k m) (M m k)):=by have:=T k k hk hk;rwa [hd] at this
  rcases t1 with e1|e1<;>rcases t2 with e2|e2<;>rw [e1,e2]
  ·refine Z1R (omin_l _ _) ?_;rw [Z6b,<- Z6b (M k m)];refine Z61 (Z20 _) ?_;have:=Z61 hz (Z20 (M k j))
   rwa [ZBb] at this
  ·refine Z1R (omin_l _ _) ?_;rw [Z6b];exact Z61 (Z20 _) (T k j hk hj)
  ·refine Z1R (omin_l _ _) ?_;rw [<- Z6b];exact Z61 (T i k hi hk) (Z20 _)
  ·exact Z1R (omin_r _ _) (T i j hi hj)
theorem fw_gr {n k:Nat} {M Y:MF} (hk:k<n) (hY:TriM n n Y) (h:leM n Y M):leM n Y (fw M k):=by
 intro i j hi hj
 exact ole_min (Z1R (hY k hk i j hi hj) (Z61 (h i k hi hk) (h k j hk hj))) (h i j hi hj)
theorem fw_bd {n k:Nat} {M:MF} {B:Int} (hk:k<n) (h0:0<=B) (h:BdM n M B):BdM n (fw M k) (2*B):=by
 intro i j hi hj
 exact inB_min (inB_add (h i k hi hk) (h k j hk hj)) (Z6g (h i j hi hj) (by omega))
def mid (M:MF) (k i j:Nat):MF:=λa b=>if a<i\/(a=i/\b<j) then fw M k a b else M a b
theorem mid_upd {M:MF} {k i j:Nat}:∀ a b,updM (mid M k i j) i j (fw M k i j) a b=mid M k i (j+1) a b:=by
 intro a b
 unfold updM mid
 by_cases h:a=i/\b=j
 ·rw [if_pos h,if_pos (by omega),h.1,h.2]
 ·rw [if_neg h]
  by_cases h2:a<i\/(a=i/\b<j)
  ·rw [if_pos h2,if_pos (by omega)]
  ·rw [if_neg h2,if_neg (by omega)]
variable {n:Nat} {d:List (List Bound)}
theorem close_s3 {M:MF} {k i:Nat} {B:Int} {s2 s3:Int×List (List Bound)} (hn:n<=24) (hdl:d.length=n) (h2:s2.1=(k:Int)) (h3:s3.1=(i:Int)) (hk:k<n) (hi:i<n) (hd:M k k=some 0) (hB:BdM n M B) (hB1:B<=2305843009213693952) :
  loopO (ZQ.s3 d s2 s3) (0,Mat n (mid M k i 0))=some (Mat n (mid M k (i+1) 0)):=by
 refine Z0B (I:=λs r=>r=Mat n (mid M k (i+1) 0)/\∃ j:Nat,s=((j:Int),Mat n (mid M k i j))/\j<=n) (λs=>n-s.1.toNat) ?_ ⟨rfl,0,rfl,YI _⟩
 rintro _ r ⟨rfl,j,rfl,hj⟩
 unfold ZQ.s3
 simp only [h2,h3,hdl]
 by_cases hlt:j<n
 ·have e1:mid M k i j i k=M i k:=by
   unfold mid;split
   ·exact fw_col hd
   ·rfl
  have e2:mid M k i j k j=M k j:=by
   unfold mid;split
   ·exact fw_row hd
   ·rfl
  have e3:mid M k i j i j=M i j:=by unfold mid;rw [if_neg (by omega)]
  have hw:w64 ((j:Int)+1)=((j+1:Nat):Int):=by rw [Z3 (by omega)];push_cast;rfl
  rw [ZK (by omega),cond_true,Z2y hi,Y0,Z2O hk,Y0,Z2y hk,Y0,Z2O hlt,Y0,e1,e2,sum_bd hB1 (hB i k hi hk) (hB k j hk hlt)]
  simp only [Z9d,cond_true,Y0,Z2y hi,Z2O hlt,less_bd,e3,hw];refine .inl ?_;have hstep:∀ X,X=Mat n (mid M k i (j+1))->(∃ s',some (Sum.inl (((j+1:Nat):Int),X))=some (Sum.inl s':(Int×List (List Bound))⊕List (List Bound))/\(True/\∃ j:Nat,s'=((j:Int),Mat n (mid M k i j))/\j<=n)/\n-s'.1.toNat<n-((j:Int)).toNat):=by
   rintro X rfl;exact ⟨_,rfl,⟨trivial,j+1,rfl,hlt⟩,by simp only [YH];omega⟩
  cases h:olt (oadd (M i k) (M k j)) (M i j) with
  | true=>
   simp only [cond_true,Y0];refine hstep _ ?_;rw [Mat_set'];refine Z5L λa b _ _=>?_;rw [<- mid_upd];have:oadd (M i k) (M k j)=fw M k i j:=by unfold fw;rw [Z9P,if_pos h]
   rw [this]
  | false=>
   simp only [cond_false,Y0];refine hstep _ ?_;refine Z5L λa b _ _=>?_;rw [<- mid_upd];unfold updM
   split
   ·rename_i hh;rw [hh.1,hh.2,e3];unfold fw;rw [Z9P,h];rfl
   ·rfl
 ·have:j=n:=by omega
  subst this;rw [ZH (by omega),cond_false]
  refine .inr ?_
  congr 2
  refine Z5L λa b ha hb=>?_;unfold mid
  by_cases h:a<i+1
  ·rw [if_pos (by omega),if_pos (by omega)]
  ·rw [if_neg (by omega),if_neg (by omega)]
theorem close_s2 {M:MF} {k:Nat} {B:Int} {s2:Int×List (List Bound)} (hn:n<=24) (hdl:d.length=n) (h2:s2.1=(k:Int)) (hk:k<n) (hd:M k k=some 0) (hB:BdM n M B) (hB1:B<=2305843009213693952) :
  loopO (ZQ.s2 d s2) (0,Mat n M)=some (Mat n (fw M k)):=by
 have e0:Mat n M=Mat n (mid M k 0 0):=Z5L λa b _ _=>by unfold mid;rw [if_neg (by omega)]
 have e1:Mat n (fw M k)=Mat n (mid M k n 0):=Z5L λa b ha _=>by unfold mid;rw [if_pos (by omega)]
 rw [e0,e1]
 refine Z0B (I:=λs r=>r=Mat n (mid M k n 0)/\∃ i:Nat,s=((i:Int),Mat n (mid M k i 0))/\i<=n) (λs=>n-s.1.toNat) ?_ ⟨rfl,0,rfl,YI _⟩
 rintro _ r ⟨rfl,i,rfl,hi⟩
 unfold ZQ.s2
 simp only [hdl]
 by_cases hlt:i<n
 ·rw [ZK (by omega),cond_true,close_s3 hn hdl h2 rfl hk hlt hd hB hB1,Y0]
  have hw:w64 ((i:Int)+1)=((i+1:Nat):Int):=by rw [Z3 (by omega)];push_cast;rfl
  rw [hw];exact .inl ⟨_,rfl,⟨trivial,i+1,rfl,hlt⟩,by simp only [YH];omega⟩
 ·have:i=n:=by omega
  subst this;rw [ZH (by omega),cond_false]
  exact .inr rfl
theorem close_s4 {M:MF} (hn:n<=24) (hdl:d.length=n) :
  (loopO (ZQ.s4 d (Mat n M)) 0=some (.go ())/\∀ i,i<n->olt (M i i) (some 0)=false)\/(loopO (ZQ.s4 d (Mat n M)) 0=some (.ret ())/\∃ i,i<n/\olt (M i i) (some 0)=true):=by
 have key:=Z2d (l:=List.range n) (step:=ZQ.s4 d (Mat n M)) (good:=λk x=>olt (M x x) (some 0)=false) (yes:=.go ()) (no:=.ret ()) ?_ ?_
 ·rcases key with ⟨h1,h2⟩|⟨h1,h2⟩
  ·exact .inl ⟨h1,λi hi=>h2 i i (by simp [hi])⟩
  ·refine .inr ⟨h1,?_⟩;refine Classical.byContradiction λhc=>h2 λk x hx=>?_;have hx':x<n:=by have:=Y7 hx;simpa using this
   cases h:olt (M x x) (some 0) with
   | false=>rfl
   | true=>exact absurd ⟨x,hx',h⟩ hc
 ·intro k x hx _;obtain ⟨hk,rfl⟩ : k<n/\x=k:=by
   rw [List.getElem?_eq_some_iff] at hx;obtain ⟨h,e⟩:=hx;simp at h e;exact ⟨h,e.symm⟩
  unfold ZQ.s4;rw [hdl,ZK (by omega),cond_true,Z2y hk,Y0,Z2O hk,Y0,less_zero]
  cases h:olt (M x x) (some 0) with
  | true=>exact .inr ⟨rfl,by simp⟩
  | false=>
   rw [cond_false,Z3 (by omega)]
   exact .inl ⟨rfl,rfl⟩
 ·unfold ZQ.s4;rw [hdl,Y0I,ZH (by omega),cond_false]
theorem lt_neg {a:Option Int} (h:olt a (some 0)=true):¬ ole (some 0) a:=by
 cases a<;>simp [olt,ole] at *<;>omega
theorem lt_not {a:Option Int} (h:olt a (some 0)=false) (h2:ole a (some 0)):a=some 0:=by
 cases a<;>simp [olt,ole] at *<;>omega
structure InvC (n:Nat) (B:Int) (M:MF) (k:Nat) (C:MF):Prop where
 diag:DiagM n C
 tri:TriM n k C
 le:leM n C M
 gr:∀ Y,TriM n n Y->DiagM n Y->leM n Y M->leM n Y C
 bd:BdM n C (B*2 ^ k)
def NoSol (n:Nat) (M:MF):Prop:=∀ Y,TriM n n Y->DiagM n Y->¬ leM n Y M
theorem pow_le24 {k:Nat} (h:k<=24):(2:Int) ^ k<=16777216/\1<=(2:Int) ^ k:=by
 have h1:(2:Nat) ^ k<=2 ^ 24:=Nat.pow_le_pow_right (by omega) h
 have h2:1<=(2:Nat) ^ k:=Nat.one_le_two_pow
 have h3:((2 ^ k:Nat):Int)=(2:Int) ^ k:=by push_cast;rfl
 omega
theorem close_s0 {M:MF} {B:Int} (hB0:0<=B) (hn:n<=24) (hdl:d.length=n) (hB:BdM n M B) :
  (∃ C,loopO (ZQ.s0 d) (0,Mat n M)=some (.go (Mat n C))/\InvC n B M 0 C)\/(loopO (ZQ.s0 d) (0,Mat n M)=some (.ret ([],false,0))/\NoSol n M):=by
 have key:=Z0R (step:=ZQ.s0 d) (I:=λs=>∃ (i:Nat) (C:MF),s=((i:Int),Mat n C)/\i<=n/\(∀ a,a<i->C a a=some 0)/\leM n C M/\(∀ Y,DiagM n Y->leM n Y M->leM n Y C)/\BdM n C B/\∀ a,i<=a->C a a=M a a) (λs=>n-s.1.toNat)
  (λr=>(∃ C,r = .go (Mat n C)/\InvC n B M 0 C)\/(r = .ret ([],false,0)/\NoSol n M)) ?_ (0,Mat n M) ⟨0,M,rfl,YI _,λa ha=>absurd ha (Y0P _),λi j _ _=>Z20 _,λY _ h=>h,hB,λ_ _=>rfl⟩
 ·obtain ⟨r,e,⟨C,rfl,h⟩|⟨rfl,h⟩⟩:=key
  ·exact .inl ⟨C,e,h⟩
  ·exact .inr ⟨e,h⟩
 ·rintro _ ⟨i,C,rfl,hi,hdg,hle,hgr,hbd,hrest⟩;unfold ZQ.s0;simp only [hdl]
  by_cases hlt:i<n
  ·rw [ZK (by omega),cond_true]
   simp only [Z2y hlt,Z2O hlt,Y0,less_zero];cases h:olt (C i i) (some 0) with
   | true=>
    rw [cond_true];refine .inr ⟨_,rfl,.inr ⟨rfl,λY hY hD hYM=>lt_neg h ?_⟩⟩;have:=hgr Y hD hYM i i hlt hlt
    rwa [hD i hlt] at this
   | false=>
    rw [cond_false];refine .inl ⟨_,rfl,⟨i+1,updM C i i (some 0),?_,hlt,?_,?_,?_,?_,?_⟩,?_⟩
    ·rw [Z3 (by omega)]
     congr 1
     exact Mat_set' (some 0)
    ·intro a ha;unfold updM
     split
     ·rfl
     ·exact hdg a (by omega)
    ·intro a b ha hb;unfold updM
     split
     ·rename_i hh;rw [hh.1,hh.2,<- hrest i (YB _)];cases hc:C i i with
      | none=>trivial
      | some v=>rw [hc] at h;simp [olt] at h;simpa [ole] using h
     ·exact hle a b ha hb
    ·intro Y hD hYM a b ha hb;unfold updM
     split
     ·rename_i hh;rw [hh.1,hh.2,hD i hlt];exact Z20 _
     ·exact hgr Y hD hYM a b ha hb
    ·intro a b ha hb;unfold updM
     split
     ·exact ⟨by omega,by omega⟩
     ·exact hbd a b ha hb
    ·intro a ha;unfold updM;rw [if_neg (by omega)]
     exact hrest a (by omega)
    ·simp only [];rw [Z3 (by omega)];omega
  ·have:i=n:=by omega
   subst this;rw [ZH (by omega),cond_false]
   exact .inr ⟨_,rfl,.inl ⟨C,rfl,hdg,λm hm=>absurd hm (Y0P _),hle,λY _ hD=>hgr Y hD,by simpa using hbd⟩⟩
theorem close_s1 {M C0:MF} {B:Int} (hB0:0<=B) (hB1:∀ k,k<n->B*2 ^ k<=2305843009213693952) (hn:n<=24) (hdl:d.length=n) (h0:InvC n B M 0 C0) :
  (∃ C,loopO (ZQ.s1 d) (0,Mat n C0)=some (.go (Mat n C))/\InvC n B M n C)\/(loopO (ZQ.s1 d) (0,Mat n C0)=some (.ret ([],false,0))/\NoSol n M):=by
 have key:=Z0R (step:=ZQ.s1 d) (I:=λs=>∃ (k:Nat) (C:MF),s=((k:Int),Mat n C)/\k<=n/\InvC n B M k C) (λs=>n-s.1.toNat)
  (λr=>(∃ C,r = .go (Mat n C)/\InvC n B M n C)\/(r = .ret ([],false,0)/\NoSol n M)) ?_ (0,Mat n C0) ⟨0,C0,rfl,YI _,h0⟩
 ·obtain ⟨r,e,⟨C,rfl,h⟩|⟨rfl,h⟩⟩:=key
  ·exact .inl ⟨C,e,h⟩
  ·exact .inr ⟨e,h⟩
 ·rintro _ ⟨k,C,rfl,hk,hI⟩;unfold ZQ.s1;simp only [hdl]
  by_cases hlt:k<n
  ·have hp:=pow_le24 (k:=k) (by omega)
   have hpB:0<=B*2 ^ k/\B*2 ^ k<=2305843009213693952:=⟨Int.mul_nonneg hB0 (by omega),hB1 k hlt⟩
   rw [ZK (by omega),cond_true,close_s2 hn hdl rfl hlt (hI.diag k hlt) hI.bd hpB.2,Y0]
   have hbd':BdM n (fw C k) (B*2 ^ (k+1)):=by
    have:=fw_bd hlt hpB.1 hI.bd;have e:B*2 ^ (k+1)=2*(B*2 ^ k):=by rw [Int.pow_succ,<- Y0r,Y02]
    rw [e];exact this
   have hgr':∀ Y,TriM n n Y->DiagM n Y->leM n Y M->leM n Y (fw C k):=λY hT hD hM=>fw_gr hlt hT (hI.gr Y hT hD hM);rcases close_s4 (d:=d) (M:=fw C k) hn hdl with ⟨e4,h4⟩|⟨e4,i,hi,h4⟩
   ·rw [e4];refine .inl ⟨_,rfl,⟨k+1,fw C k,?_,hlt,?_,fw_tri hlt (hI.diag k hlt) hI.tri,?_,hgr',hbd'⟩,?_⟩
    ·rw [Z3 (by omega)];push_cast;rfl
    ·intro i hi;refine lt_not (h4 i hi) ?_;have:=fw_le C k i i
     rwa [hI.diag i hi] at this
    ·exact λa b ha hb=>Z1R (fw_le C k a b) (hI.le a b ha hb)
    ·simp only [];rw [Z3 (by omega)];omega
   ·rw [e4];refine .inr ⟨_,rfl,.inr ⟨rfl,λY hT hD hM=>lt_neg h4 ?_⟩⟩;have:=hgr' Y hT hD hM i i hi hi
    rwa [hD i hi] at this
  ·have:k=n:=by omega
   subst this;rw [ZH (by omega),cond_false]
   exact .inr ⟨_,rfl,.inl ⟨C,rfl,hI⟩⟩
theorem close_eq2 {M:MF} {B:Int} (hB0:0<=B) (hB2:B<=1125899906842624) (hB1:∀ k,k<n->B*2 ^ k<=2305843009213693952) (h1:1<=n) (hn:n<=24) (hB:BdM n M B) :
  (∃ C,ZQ (Mat n M)=some (Mat n C,true,0)/\InvC n B M n C)\/(ZQ (Mat n M)=some ([],false,0)/\NoSol n M):=by
 unfold ZQ
 rw [stp_Right_mat hn (λa b ha hb=>Z6g (hB a b ha hb) hB2),Y0,YD,cond_false,stp_own_mat h1 hn,Y0]
 rcases close_s0 (d:=Mat n M) hB0 hn Z3L hB with ⟨C,e,h⟩|⟨e,h⟩
 ·rw [e];simp only [Y0,Jx.elim];rcases close_s1 (d:=Mat n M) hB0 hB1 hn Z3L h with ⟨C',e',h'⟩|⟨e',h'⟩
  ·rw [e'];exact .inl ⟨C',rfl,h'⟩
  ·rw [e'];exact .inr ⟨rfl,h'⟩
 ·rw [e];exact .inr ⟨rfl,h⟩
end Go.Dn

namespace Go.Dn
open Go
def vec (n:Nat) (E:Nat->Int):List Int:=(List.range n).map E
def tm (E:Nat->Int):MF:=λi j=>some (E j-E i)
section
variable {n:Nat} {E:Nat->Int}
theorem tm_tri {k:Nat}:TriM n k (tm E):=by
 intro m _ i j _ _
 simp only [tm,oadd,ole];omega
theorem tm_diag:DiagM n (tm E):=by
 intro i _
 simp only [tm];congr 1;omega
end
variable {n:Nat}
def Early (n:Nat) (C:MF) (E:Nat->Int) (i k:Nat):Prop:=(∀ j,j<k->ole (some (E i)) (C j i))/\(E i=0\/∃ j,j<n/\C j i=some (E i))
noncomputable def sameTail (x1:List (List Bound)) (x2:List (List Bound)×Bool×Int) (t:List Int):Option Bool :=
 (Z1S x1 t).bind λx8=>
 (bif ((x2.2.2 != 0)||(!x2.2.1)) then
  some ((((x2.2.2==0)&&(!x8))&&((x2.1.length:Int)==0))&&Z2J)
 else
  (Z1S x2.1 t).bind λx10=>
  (bif (x10 != x8) then
   some false
  else
   (Z2i x2.1 (x1.length:Int)).bind λx11=>
   (bif (!x11) then
    some false
   else
    (new? 8 (x1.length:Int) 0).bind λx12=>
    (loopO (Z0E.s1 x1 x2) (0,x12)).bind λ(y2:(List Int))=>
    (Z1S x1 y2).bind λx19=>
    (
     (bif x19 then
      (Z1S x2.1 y2).bind λx20=>
      some x20
     else
      some false)).bind λ(y6:Bool)=>
    some (y6&&Z2J))))
end Go.Dn

namespace Go.Dn
open Go
variable {n:Nat}
def lowered (C:MF) (i j:Nat) (w:Int):MF:=λa b=>omin (oadd (C a i) (oadd (some w) (C j b))) (C a b)
end Go.Dn

namespace Go.Dn
open Go
def RightD (d:List (List Bound)):Prop:=d.length<=24/\∀ row∈d,row.length=d.length/\∀ b∈row,Z6u b=true
end Go.Dn

namespace Go.Dn
open Go
end Go.Dn
