/- Part 3 of what the row stands on. -/
import Derived.KernelRfl
import Derived.Test.YtcfdfhbclakbpaaDoorM2
set_option linter.unusedVariables false
set_option linter.unusedSimpArgs false
namespace Go.Dn
open Go
theorem copy_loop {x8:List (List Span)} (hl:x8.length<=100000) (hx:∀ r∈x8,r.length<=100000):loopO (Z9.s4 x8) (0,x8)=some x8:=by
 refine Z1L (I:=λ(s:Int×List (List Span)) r=>r=x8/\∃ k:Nat,s=((k:Int),x8)/\k<=x8.length) (λs=>x8.length-s.1.toNat) ?_ ⟨rfl,0,rfl,Y0I _⟩
 rintro s r ⟨hr,k,rfl,hk⟩
 subst hr
 unfold Z9.s4
 by_cases hlt:k<r.length
 ·refine .inl ⟨_,?_,⟨rfl,k+1,rfl,hlt⟩,by simp;omega⟩
  have hc:clone? 16 r[k]=some r[k]:=if_pos (by have:=hx _ (Y0F hlt);rw [room_eq];omega)
  simp only;rw [Z0d (by omega)]
  simp only [cond_true,at?_nat hlt,Y4,hc];rw [ZN (by omega),Int.toNat_natCast,List.set_getElem_self]
  simp
 ·obtain rfl:k=r.length:=by omega
  refine .inr ?_;simp only;rw [Z0R (by omega)]
  rfl
theorem gran_Copy_id {f:Form} (hne:f.Core≠[]) (ho:f.Odd=[]) (hl:f.Core.length<=100000) (hx:∀ r∈f.Core,r.length<=100000):Z9 f=some f:=by
 have h1:f.Core.isEmpty=false:=by cases hc:f.Core<;>simp_all
 have h2:ZW f.Core=some f.Core:=by
  unfold ZW;have:some? f.Core=some ():=by cases hc:f.Core with|nil=>exact absurd hc hne|cons a l=>rfl
  rw [this,Y4,app?_ok (by rw [room_eq];simp;omega)]
  rfl
 have h5:loopO (Z9.s5 f) ()=some ():=by
  rw [loopO_eq];unfold Z9.s5;rw [ho]
  rfl
 unfold Z9
 rw [h1,ho]
 simp only [cond_false,h2,Y4,List.isEmpty_nil,cond_true,copy_loop hl hx,h5]
 rw [<- ho]
theorem Mo_len (n N:Nat):(Mo n N).Core.length=N:=by simp [Mo]
theorem made_core {j:Nat} (hj:j<6):(Z06 j).Core≠[]/\(Z06 j).Odd=[]/\(Z06 j).Core.length<=4800/\∀ r∈(Z06 j).Core,r.length<=1:=by
 have hM:∀ n N,0<N->N<=4800->(Mo n N).Core≠[]/\(Mo n N).Odd=[]/\(Mo n N).Core.length<=4800/\∀ r∈(Mo n N).Core,r.length<=1:=λn N h h'=>
  ⟨λe=>by have:=Mo_len n N;rw [e] at this;simp at this;omega,rfl,by rw [Mo_len];exact h',λr hr=>by
   obtain ⟨i,_,rfl⟩:=List.mem_map.1 hr;exact YG _⟩
 match j,hj with
 | 0,_|1,_|2,_=>exact ⟨nofun,rfl,by decide,by simp [Z06]⟩
 | 3,_=>exact hM 1 4800 (by omega) (by omega)
 | 4,_=>exact hM 3 1600 (by omega) (by omega)
 | 5,_=>exact hM 12 400 (by omega) (by omega)
theorem copy_made {j:Nat} (hj:j<6):Z9 (Z06 j)=some (Z06 j):=by
 obtain ⟨h1,h2,h3,h4⟩:=made_core hj
 exact gran_Copy_id h1 h2 (by omega) λr hr=>by have:=h4 r hr;omega
theorem index_gen {s:List ByteArray} {v:ByteArray} (hl:s.length<=1000) :
  (∃ k,∃ h:k<s.length,(v.toList==s[k].toList)=true/\Z4 s v=some (k:Int))\/((∀ k (h:k<s.length),(v.toList==s[k].toList)=false)/\Z4 s v=some (-1)):=by
 by_cases hall:∀ (k:Nat) (x:ByteArray),s[k]? = some x->(v.toList==x.toList)=false
 ·refine .inr ⟨λk h=>hall k _ (YB h),?_⟩;unfold Z4;have:loopO (Z4.s0 s v) 0=some (.go ()):=by
   refine Z1L (I:=λ(i:Int) r=>r = .go ()/\∃ k:Nat,i=k/\k<=s.length) (λi=>s.length-i.toNat) ?_ ⟨rfl,0,rfl,Y0I _⟩;rintro i r ⟨rfl,k,rfl,hk⟩;unfold Z4.s0
   by_cases hlt:k<s.length
   ·refine .inl ⟨_,?_,⟨rfl,k+1,rfl,hlt⟩,by simp;omega⟩
    rw [Z0d (by omega),at?_nat hlt]
    simp only [cond_true,Y4,hall k _ (YB hlt),cond_false];rw [ZN (by omega)]
    simp
   ·refine .inr ?_;rw [Z0R (by omega)]
    rfl
  rw [this]
  rfl
 ·obtain ⟨k0,x0,hx0,hb0,hgood⟩:=first_bad (good:=λ(_:Nat) (x:ByteArray)=>(v.toList==x.toList)=false) hall;have hlt0:=(List.getElem?_eq_some_iff.1 hx0).1;have hx0':=(List.getElem?_eq_some_iff.1 hx0).2;have hb:(v.toList==s[k0].toList)=true:=by rw [hx0'];simpa using hb0
  refine .inl ⟨k0,hlt0,hb,?_⟩;unfold Z4;have:loopO (Z4.s0 s v) 0=some (.ret (k0:Int)):=by
   refine Z1L (I:=λ(i:Int) r=>r = .ret (k0:Int)/\∃ k:Nat,i=k/\k<=k0) (λi=>s.length-i.toNat) ?_ ⟨rfl,0,rfl,Y0I _⟩;rintro i r ⟨rfl,k,rfl,hk⟩;unfold Z4.s0;have hkl:k<s.length:=by omega
   rw [Z0d (by omega),at?_nat hkl]
   simp only [cond_true,Y4]
   by_cases hlt:k<k0
   ·refine .inl ⟨_,?_,⟨trivial,k+1,rfl,hlt⟩,by simp;omega⟩
    rw [hgood k _ hlt (YB hkl)];simp only [cond_false];rw [ZN (by omega)]
    simp
   ·obtain rfl:k=k0:=by omega
    refine .inr ?_;rw [hb]
    rfl
  rw [this]
  rfl
theorem names_differ:∀ j,j<6->∀ k,k<6->((Z8.getD j ByteArray.empty).toList==(Z8.getD k ByteArray.empty).toList)=true->j=k:=by decide +kernel
theorem index_at {v:ByteArray} {j:Nat} (hj:j<6) (h:(v.toList==(Z8.getD j ByteArray.empty).toList)=true):Z4 Z8 v=some (j:Int):=by
 have e:∀ k (hk:k<Z8.length),Z8[k]=Z8.getD k ByteArray.empty:=λk hk=>by simp [Yx,YB hk]
 rcases index_gen (s:=Z8) (v:=v) (by decide) with ⟨k,hk,h1,h2⟩|⟨h1,_⟩
 ·rw [e k hk] at h1;have:j=k:=names_differ j hj k hk (by rw [beq_iff_eq] at h h1 ⊢;rw [<- h,h1])
  rw [h2,this]
 ·have:=h1 j hj;rw [e j hj,h] at this;cases this
theorem index_no {v:ByteArray} (h:∀ j,j<6->(v.toList==(Z8.getD j ByteArray.empty).toList)=false):Z4 Z8 v=some (-1):=by
 have e:∀ k (hk:k<Z8.length),Z8[k]=Z8.getD k ByteArray.empty:=λk hk=>by simp [Yx,YB hk]
 rcases index_gen (s:=Z8) (v:=v) (by decide) with ⟨k,hk,h1,h2⟩|⟨_,h2⟩
 ·rw [e k hk,h k hk] at h1;cases h1
 ·exact h2
theorem cal_new {v:ByteArray} {j:Nat} {ks:List (Option Form)} {m:Int} (hj:j<6) (h:(v.toList==(Z8.getD j ByteArray.empty).toList)=true) (hl:ks.length=6) (hk:ks[j]? = some none) (hm:0<=m/\m<=1000) :
  Z09 v (ks,m)=some ((Z06 j,0),(ks.set j (some (Z06 j)),m+1)):=by
 have ha:at? ks (j:Int)=some none:=by rw [at?_nat (by omega)];rw [YB (by omega)] at hk;exact hk
 unfold Z09
 simp only [hl,index_at hj h,beq_self_eq_true,cond_true,Y4]
 rw [Z0R (by omega)]
 simp only [cond_false,ha,Y4,basis_made_eq hj,copy_made hj]
 rw [Int.toNat_natCast,ZN (by omega)]
theorem cal_old {v:ByteArray} {j:Nat} {ks:List (Option Form)} {m:Int} (hj:j<6) (h:(v.toList==(Z8.getD j ByteArray.empty).toList)=true) (hl:ks.length=6) (hk:ks[j]? = some (some (Z06 j))) :
  Z09 v (ks,m)=some ((Z06 j,0),(ks,m)):=by
 have ha:at? ks (j:Int)=some (some (Z06 j)):=by rw [at?_nat (by omega)];rw [YB (by omega)] at hk;exact hk
 unfold Z09
 simp only [hl,index_at hj h,beq_self_eq_true,cond_true,Y4]
 rw [Z0R (by omega)]
 simp only [cond_false,ha,Y4,copy_made hj]
theorem cal_no {v:ByteArray} {ks:List (Option Form)} {m:Int} (h:∀ j,j<6->(v.toList==(Z8.getD j ByteArray.empty).toList)=false) (hl:ks.length=6):Z09 v (ks,m)=some ((⟨0,0,[],[]⟩,80),(ks,m)):=by
 unfold Z09
 simp only [hl,index_no h,beq_self_eq_true,cond_true,Y4]
 rfl
def CalOK (ks:List (Option Form)):Prop:=ks.length=6/\∀ j,j<6->ks[j]? = some none\/ks[j]? = some (some (Z06 j))
theorem cal_any {v:ByteArray} {j:Nat} {ks:List (Option Form)} {m:Int} (hj:j<6) (h:(v.toList==(Z8.getD j ByteArray.empty).toList)=true) (hk:CalOK ks) (hm:0<=m/\m<=1000) :
  ∃ ks' m',Z09 v (ks,m)=some ((Z06 j,0),(ks',m'))/\CalOK ks'/\0<=m'/\m'<=m+1:=by
 rcases hk.2 j hj with h1|h1
 ·refine ⟨_,_,cal_new hj h hk.1 h1 hm,⟨by rw [List.length_set];exact hk.1,λi hi=>?_⟩,by omega,by omega⟩
  rw [List.getElem?_set]
  by_cases e:j=i
  ·subst e;rw [if_pos rfl,if_pos (by have:=hk.1;omega)]
   exact .inr rfl
  ·rw [if_neg e];exact hk.2 i hi
 ·exact ⟨_,_,cal_old hj h hk.1 h1,hk,hm.1,by omega⟩
theorem Z3p {f:Form} {i:Nat} {x:Span} (h:f.Core[i]? = some [x]):ZD f (i:Int)=some x:=by
 obtain ⟨h1,h2⟩:=List.getElem?_eq_some_iff.1 h
 unfold ZD
 simp only [at?_nat h1,h2,Y4]
 rw [Z0R (by omega)]
 rfl
theorem Mo_at {n N i:Nat} (h:i<N):(Mo n N).Core[i]? = some [⟨Dy ((i*n:Nat):Int),Dy ((i*n:Nat)+n:Int)-1⟩]:=by
 simp [Mo,h]
end Go.Dn

namespace Go.Dn
open Go
theorem Z2i:Z0e=some true:=by
 have c1:ZD (Z06 2) 0=some ⟨-3,3⟩:=Z3p (i:=0) rfl
 have c2:ZD (Z06 3) 1=some ⟨31,58⟩:=Z3p (i:=1) ((Mo_at (by decide)).trans (by decide +kernel))
 have c3:ZD (Z06 3) 25=some ⟨761,789⟩:=Z3p (i:=25) ((Mo_at (by decide)).trans (by decide +kernel))
 have c4:ZD (Z06 5) 0=some ⟨0,364⟩:=Z3p (i:=0) ((Mo_at (by decide)).trans (by decide +kernel))
 have c5:ZD (Z06 5) 1=some ⟨365,729⟩:=Z3p (i:=1) ((Mo_at (by decide)).trans (by decide +kernel))
 have c6:ZD (Z06 5) 2=some ⟨730,1095⟩:=Z3p (i:=2) ((Mo_at (by decide)).trans (by decide +kernel))
 unfold Z0e
 rw [cal_new (j:=2) (by decide) (by decide +kernel) rfl rfl (by decide),Y4]
 simp only
 rw [cal_new (j:=3) (by decide) (by decide +kernel) rfl rfl (by decide),Y4]
 simp only
 rw [cal_new (j:=5) (by decide) (by decide +kernel) rfl rfl (by decide),Y4]
 simp only
 rw [cal_no (by decide +kernel) rfl,Y4]
 simp only [c1,c2,c3,c4,c5,c6,Y4]
 rfl
end Go.Dn

namespace Go.Dn
open Go Go.Proofs
set_option maxRecDepth 100000
set_option maxHeartbeats 4000000
theorem Zs {f:Form} {i:Int} {r:Span} (h:ZD f i=some r):Fn CZ 28 [(.agg (vs (Form.cs f))),(vi i)] (.agg (vs (Span.cs r))):=lift rfl (Z4S h) rfl rfl
theorem Z3X {r:Bool} (h:Z0e=some r):Fn CZ 14 [] (vb r):=by
 refine Fn.go Tryd.func14 V λG H=>?_;unfold Z0e at h;refine .tR 1 V H λb1 G H=>(.aV V (.na H λH=>(.tR 2 V H λb2 G H=>?_)));refine .callFO (ys:=[]) H rfl new_call nofun rfl ?_;rintro _ _ G ⟨id1,id2,rfl,rfl⟩ H;replace H:Has G _ _ [.blk id1 44 [(.buf id2 6 7),(vi 0)],.blk id2 72 (kcells [none,none,none,none,none,none])]:=H;refine .aP V (.na H λH=>(.tR 8 V H λb3 G H=>(.mP V ?_)));obtain ⟨x1,q1,h⟩:=bs h;refine .callI (cv:=.v (.fn 10)) (ys:=[(.ptr id1 2 0),(.v (.str (ByteArray.mk #[119,101,101,107])))]) (L:=[]) [.blk id1 44 [(.buf id2 6 7),(vi 0)],.blk id2 72 (kcells [none,none,none,none,none,none])] H rfl rfl (λT _ H=>Z1w (g:=x1.1.1) (e:=x1.1.2) (ks':=x1.2.1) (m':=x1.2.2) q1 H) nofun rfl ?_;rintro _ _ G ⟨w1,w2,hw1,hw2,rfl,rfl⟩ H;replace H:Has G _ _ [.blk id1 44 [(.buf id2 6 7),(vi x1.2.2)],.blk id2 72 (kcells x1.2.1)]:=H;refine .m1 (.tup [(.agg [(vi x1.1.1.Period),(vi x1.1.1.Count),w1,w2]),(vi x1.1.2)]) V V (.xV V (.xV V (.alc (cs:=[(vi 0),(vi 0),.nils,.nils]) H V V λG H=>(.sV [(vi x1.1.1.Period),(vi x1.1.1.Count),w1,w2] H 0 V λG H=>(.aV V (.na H λH=>(.tR 8 V H λb4 G H=>(.mP V ?_))))))));replace H:Has G _ _ [.blk id1 44 [(.buf id2 6 7),(vi x1.2.2)],.blk id2 72 (kcells x1.2.1),.blk (b3+5) 29 [(vi x1.1.1.Period),(vi x1.1.1.Count),w1,w2]]:=H.pick [1,2,0] (by decide);obtain ⟨x2,q2,h⟩:=bs h
 refine .callI (cv:=.v (.fn 10)) (ys:=[(.ptr id1 2 0),(.v (.str (ByteArray.mk #[109,111,110,116,104])))]) (L:=[.blk (b3+5) 29 [(vi x1.1.1.Period),(vi x1.1.1.Count),w1,w2]]) [.blk id1 44 [(.buf id2 6 7),(vi x1.2.2)],.blk id2 72 (kcells x1.2.1)] H rfl rfl (λT _ H=>Z1w (g:=x2.1.1) (e:=x2.1.2) (ks':=x2.2.1) (m':=x2.2.2) q2 H) nofun rfl ?_;rintro _ _ G ⟨w3,w4,hw3,hw4,rfl,rfl⟩ H;replace H:Has G _ _ [.blk id1 44 [(.buf id2 6 7),(vi x2.2.2)],.blk id2 72 (kcells x2.2.1),.blk (b3+5) 29 [(vi x1.1.1.Period),(vi x1.1.1.Count),w1,w2]]:=H;refine .m1 (.tup [(.agg [(vi x2.1.1.Period),(vi x2.1.1.Count),w3,w4]),(vi x2.1.2)]) V V (.xV V (.xV V (.alc (cs:=[(vi 0),(vi 0),.nils,.nils]) H V V λG H=>(.sV [(vi x2.1.1.Period),(vi x2.1.1.Count),w3,w4] H 0 V λG H=>(.aV V (.na H λH=>(.tR 8 V H λb5 G H=>(.mP V ?_))))))));replace H:Has G _ _ [.blk id1 44 [(.buf id2 6 7),(vi x2.2.2)],.blk id2 72 (kcells x2.2.1),.blk (b4+5) 29 [(vi x2.1.1.Period),(vi x2.1.1.Count),w3,w4],.blk (b3+5) 29 [(vi x1.1.1.Period),(vi x1.1.1.Count),w1,w2]]:=H.pick [1,2,0,3] (by decide);obtain ⟨x3,q3,h⟩:=bs h;refine .callI (cv:=.v (.fn 10)) (ys:=[(.ptr id1 2 0),(.v (.str (ByteArray.mk #[121,101,97,114])))]) (L:=[.blk (b4+5) 29 [(vi x2.1.1.Period),(vi x2.1.1.Count),w3,w4],.blk (b3+5) 29 [(vi x1.1.1.Period),(vi x1.1.1.Count),w1,w2]]) [.blk id1 44 [(.buf id2 6 7),(vi x2.2.2)],.blk id2 72 (kcells x2.2.1)] H rfl rfl (λT _ H=>Z1w (g:=x3.1.1) (e:=x3.1.2) (ks':=x3.2.1) (m':=x3.2.2) q3 H) nofun rfl ?_;rintro _ _ G ⟨w5,w6,hw5,hw6,rfl,rfl⟩ H
 replace H:Has G _ _ [.blk id1 44 [(.buf id2 6 7),(vi x3.2.2)],.blk id2 72 (kcells x3.2.1),.blk (b4+5) 29 [(vi x2.1.1.Period),(vi x2.1.1.Count),w3,w4],.blk (b3+5) 29 [(vi x1.1.1.Period),(vi x1.1.1.Count),w1,w2]]:=H;refine .m1 (.tup [(.agg [(vi x3.1.1.Period),(vi x3.1.1.Count),w5,w6]),(vi x3.1.2)]) V V (.xV V (.xV V (.alc (cs:=[(vi 0),(vi 0),.nils,.nils]) H V V λG H=>(.sV [(vi x3.1.1.Period),(vi x3.1.1.Count),w5,w6] H 0 V λG H=>(.aV V (.na H λH=>(.tR 8 V H λb6 G H=>(.mP V ?_))))))));replace H:Has G _ _ [.blk id1 44 [(.buf id2 6 7),(vi x3.2.2)],.blk id2 72 (kcells x3.2.1),.blk (b5+5) 29 [(vi x3.1.1.Period),(vi x3.1.1.Count),w5,w6],.blk (b4+5) 29 [(vi x2.1.1.Period),(vi x2.1.1.Count),w3,w4],.blk (b3+5) 29 [(vi x1.1.1.Period),(vi x1.1.1.Count),w1,w2]]:=H.pick [1,2,0,3,4] (by decide);obtain ⟨x4,q4,h⟩:=bs h;refine .callI (cv:=.v (.fn 10)) (ys:=[(.ptr id1 2 0),(.v (.str (ByteArray.mk #[104,111,117,114])))]) (L:=[.blk (b5+5) 29 [(vi x3.1.1.Period),(vi x3.1.1.Count),w5,w6],.blk (b4+5) 29 [(vi x2.1.1.Period),(vi x2.1.1.Count),w3,w4],.blk (b3+5) 29 [(vi x1.1.1.Period),(vi x1.1.1.Count),w1,w2]]) [.blk id1 44 [(.buf id2 6 7),(vi x3.2.2)],.blk id2 72 (kcells x3.2.1)] H rfl rfl (λT _ H=>Z1w (g:=x4.1.1) (e:=x4.1.2) (ks':=x4.2.1) (m':=x4.2.2) q4 H) nofun rfl ?_;rintro _ _ G ⟨w7,w8,hw7,hw8,rfl,rfl⟩ H;replace H:Has G _ _ [.blk id1 44 [(.buf id2 6 7),(vi x4.2.2)],.blk id2 72 (kcells x4.2.1),.blk (b5+5) 29 [(vi x3.1.1.Period),(vi x3.1.1.Count),w5,w6],.blk (b4+5) 29 [(vi x2.1.1.Period),(vi x2.1.1.Count),w3,w4],.blk (b3+5) 29 [(vi x1.1.1.Period),(vi x1.1.1.Count),w1,w2]]:=H
 refine .m1 (.tup [(.agg [(vi x4.1.1.Period),(vi x4.1.1.Count),w7,w8]),(vi x4.1.2)]) V V (.xV V (.xV V (.alc (cs:=[(vi 0),(vi 0),.nils,.nils]) H V V λG H=>(.sV [(vi x4.1.1.Period),(vi x4.1.1.Count),w7,w8] H 0 V λG H=>(.aV V (.na H λH=>(.then (.tR 34 V H λb7 G H=>?_))))))));refine .mV V (.iV V (.mV V ?_));refine .md H 4 [(37,(vb ((x1.1.2 != 0)||(x1.1.1.Period != 7)))),(1,(.ptr id1 2 0)),(2,(.ptr (b3+5) 4 0)),(4,(.ptr (b4+5) 4 0)),(5,(vi x2.1.2)),(6,(.ptr (b5+5) 4 0)),(7,(vi x3.1.2)),(9,(vi x4.1.2))] [.blk id1 44 [(.buf id2 6 7),(vi x4.2.2)],.blk id2 72 (kcells x4.2.1),.blk (b5+5) 29 [(vi x3.1.1.Period),(vi x3.1.1.Count),w5,w6],.blk (b4+5) 29 [(vi x2.1.1.Period),(vi x2.1.1.Count),w3,w4],.blk (b3+5) 29 [(vi x1.1.1.Period),(vi x1.1.1.Count),w1,w2]] rfl ?_ λe G H=>?_
 ·refine .split V V ?_ ?_<;>intro hc1
  ·refine .ps 3 V (.kT V (.nil ?_));exact ⟨⟨or_T hc1,V,V,V,V,V,V,V,U⟩,(H.erase 0).wk (by omega)⟩
  ·refine .fV H 5 V (.lV H 5 V (.iV V (.kF V (.nil ?_))));exact ⟨⟨or_F hc1,V,V,V,V,V,V,V,U⟩,(H.erase 0).wk (by omega)⟩
 refine .mV V ?_;refine .md H 4 [(42,(vb (((x1.1.2 != 0)||(x1.1.1.Period != 7))||(x1.1.1.Count != 1)))),(1,(.ptr id1 2 0)),(2,(.ptr (b3+5) 4 0)),(4,(.ptr (b4+5) 4 0)),(5,(vi x2.1.2)),(6,(.ptr (b5+5) 4 0)),(7,(vi x3.1.2)),(9,(vi x4.1.2))] [.blk id1 44 [(.buf id2 6 7),(vi x4.2.2)],.blk id2 72 (kcells x4.2.1),.blk (b5+5) 29 [(vi x3.1.1.Period),(vi x3.1.1.Count),w5,w6],.blk (b4+5) 29 [(vi x2.1.1.Period),(vi x2.1.1.Count),w3,w4],.blk (b3+5) 29 [(vi x1.1.1.Period),(vi x1.1.1.Count),w1,w2]] rfl ?_ λe G H=>?_
 ·refine .split V V ?_ ?_<;>intro hc2
  ·refine .ps 3 V (.kT V (.nil ?_));exact ⟨⟨or_T hc2,V,V,V,V,V,V,V,U⟩,H.wk (by omega)⟩
  ·refine .fV H 4 V (.lV H 4 V (.iV V (.kF V (.nil ?_))));exact ⟨⟨or_F hc2,V,V,V,V,V,V,V,U⟩,H.wk (by omega)⟩
 refine .mV V ?_;obtain ⟨y1,hj1,h⟩:=bs h;refine .md H 5 [(48,(vb y1)),(1,(.ptr id1 2 0)),(4,(.ptr (b4+5) 4 0)),(5,(vi x2.1.2)),(6,(.ptr (b5+5) 4 0)),(7,(vi x3.1.2)),(9,(vi x4.1.2))] [.blk id1 44 [(.buf id2 6 7),(vi x4.2.2)],.blk id2 72 (kcells x4.2.1),.blk (b5+5) 29 [(vi x3.1.1.Period),(vi x3.1.1.Count),w5,w6],.blk (b4+5) 29 [(vi x2.1.1.Period),(vi x2.1.1.Count),w3,w4]] V ?_ λe G H=>?_
 ·refine .sp hj1 V ?_ ?_<;>intro h
  ·refine .ps 4 V (.kT V (.nil ?_));obtain rfl:=sj h;exact ⟨EI V,(H.erase 4).wk (by omega)⟩
  refine .LV [(vi x1.1.1.Period),(vi x1.1.1.Count),w1,w2] H 4 V (.wt V V ?_);obtain ⟨x5,q5,h⟩:=bs h;refine .Z3L (xs:=[(.agg [(vi x1.1.1.Period),(vi x1.1.1.Count),w1,w2]),(vi 0)]) (ys:=[(.agg (vs (Form.cs (Form.mk x1.1.1.Period x1.1.1.Count x1.1.1.Core x1.1.1.Odd)))),(vi 0)]) H V (.cons (.a (.cons (.v _) (.cons (.v _) (.cons (.ro hw1) (.cons (.ro hw2) .nil))))) (.cons (.c (.v _)) .nil)) (Zs q5) V nofun V λG H=>(.bV [(vi (-3)),(vi 3)] V (.wt V V (.binA (u:=(.agg [(vi x5.From),(vi x5.To)])) (w:=(.agg [(vi (-3)),(vi 3)])) (r:=.bool (!((x5.From==(-3))&&((x5.To==3)&&true)))) V V (by kernel_rfl) (λ_=>Z3i V V V V) V (.kF V (.nil ?_)))));obtain rfl:=sj h;exact ⟨EI V,(H.erase 4).wk (by omega)⟩
 refine .mV V ?_;refine .md H 3 [(52,(vb (y1||(x2.1.2 != 0)))),(1,(.ptr id1 2 0)),(4,(.ptr (b4+5) 4 0)),(6,(.ptr (b5+5) 4 0)),(7,(vi x3.1.2)),(9,(vi x4.1.2))] [.blk id1 44 [(.buf id2 6 7),(vi x4.2.2)],.blk id2 72 (kcells x4.2.1),.blk (b5+5) 29 [(vi x3.1.1.Period),(vi x3.1.1.Count),w5,w6],.blk (b4+5) 29 [(vi x2.1.1.Period),(vi x2.1.1.Count),w3,w4]] rfl ?_ λe G H=>?_
 ·refine .split V V ?_ ?_<;>intro hc4
  ·refine .ps 2 V (.kT V (.nil ?_));exact ⟨⟨or_T hc4,V,V,V,V,V,U⟩,H.wk (by omega)⟩
  ·refine .mV V (.iV V (.kF V (.nil ?_)));exact ⟨⟨or_F hc4,V,V,V,V,V,U⟩,H.wk (by omega)⟩
 refine .mV V ?_;obtain ⟨y2,hj2,h⟩:=bs h;refine .md H 5 [(58,(vb y2)),(1,(.ptr id1 2 0)),(4,(.ptr (b4+5) 4 0)),(6,(.ptr (b5+5) 4 0)),(7,(vi x3.1.2)),(9,(vi x4.1.2))] [.blk id1 44 [(.buf id2 6 7),(vi x4.2.2)],.blk id2 72 (kcells x4.2.1),.blk (b5+5) 29 [(vi x3.1.1.Period),(vi x3.1.1.Count),w5,w6],.blk (b4+5) 29 [(vi x2.1.1.Period),(vi x2.1.1.Count),w3,w4]] V ?_ λe G H=>?_
 ·refine .sp hj2 V ?_ ?_<;>intro h
  ·refine .ps 4 V (.kT V (.nil ?_));obtain rfl:=sj h;exact ⟨EI V,H.wk (by omega)⟩
  refine .LV [(vi x2.1.1.Period),(vi x2.1.1.Count),w3,w4] H 3 V (.wt V V ?_);obtain ⟨x6,q6,h⟩:=bs h;refine .Z3L (xs:=[(.agg [(vi x2.1.1.Period),(vi x2.1.1.Count),w3,w4]),(vi 1)]) (ys:=[(.agg (vs (Form.cs (Form.mk x2.1.1.Period x2.1.1.Count x2.1.1.Core x2.1.1.Odd)))),(vi 1)]) H V (.cons (.a (.cons (.v _) (.cons (.v _) (.cons (.ro hw3) (.cons (.ro hw4) .nil))))) (.cons (.c (.v _)) .nil)) (Zs q6) V nofun V λG H=>(.bV [(vi 31),(vi 58)] V (.wt V V (.binA (u:=(.agg [(vi x6.From),(vi x6.To)])) (w:=(.agg [(vi 31),(vi 58)])) (r:=.bool (!((x6.From==31)&&((x6.To==58)&&true)))) V V (by kernel_rfl) (λ_=>Z3i V V V V) V (.kF V (.nil ?_)))));obtain rfl:=sj h;exact ⟨EI V,H.wk (by omega)⟩
 refine .mV V ?_;obtain ⟨y3,hj3,h⟩:=bs h;refine .md H 5 [(64,(vb y3)),(1,(.ptr id1 2 0)),(6,(.ptr (b5+5) 4 0)),(7,(vi x3.1.2)),(9,(vi x4.1.2))] [.blk id1 44 [(.buf id2 6 7),(vi x4.2.2)],.blk id2 72 (kcells x4.2.1),.blk (b5+5) 29 [(vi x3.1.1.Period),(vi x3.1.1.Count),w5,w6]] V ?_ λe G H=>?_
 ·refine .sp hj3 V ?_ ?_<;>intro h
  ·refine .ps 4 V (.kT V (.nil ?_));obtain rfl:=sj h;exact ⟨EI V,(H.erase 3).wk (by omega)⟩
  refine .LV [(vi x2.1.1.Period),(vi x2.1.1.Count),w3,w4] H 3 V (.wt V V ?_);obtain ⟨x7,q7,h⟩:=bs h;refine .Z3L (xs:=[(.agg [(vi x2.1.1.Period),(vi x2.1.1.Count),w3,w4]),(vi 25)]) (ys:=[(.agg (vs (Form.cs (Form.mk x2.1.1.Period x2.1.1.Count x2.1.1.Core x2.1.1.Odd)))),(vi 25)]) H V (.cons (.a (.cons (.v _) (.cons (.v _) (.cons (.ro hw3) (.cons (.ro hw4) .nil))))) (.cons (.c (.v _)) .nil)) (Zs q7) V nofun V λG H=>(.bV [(vi 761),(vi 789)] V (.wt V V (.binA (u:=(.agg [(vi x7.From),(vi x7.To)])) (w:=(.agg [(vi 761),(vi 789)])) (r:=.bool (!((x7.From==761)&&((x7.To==789)&&true)))) V V (by kernel_rfl) (λ_=>Z3i V V V V) V (.kF V (.nil ?_)))));obtain rfl:=sj h;exact ⟨EI V,(H.erase 3).wk (by omega)⟩
 refine .na H λH=>?_;refine .wh h V ?_ ?_<;>intro h
 ·refine .tR 1 V H λb8 G H=>(.aV V (.na H λH=>(.ret ?_)));obtain rfl:=sj h;exact Ends.eR V
 refine .skip (.tR 30 V H λb9 G H=>(.mV V (.iV V (.mV V ?_))));obtain ⟨y4,hj4,h⟩:=bs h;refine .md H 5 [(72,(vb y4)),(1,(.ptr id1 2 0)),(6,(.ptr (b5+5) 4 0)),(9,(vi x4.1.2))] [.blk id1 44 [(.buf id2 6 7),(vi x4.2.2)],.blk id2 72 (kcells x4.2.1),.blk (b5+5) 29 [(vi x3.1.1.Period),(vi x3.1.1.Count),w5,w6]] V ?_ λe G H=>?_
 ·refine .sp hj4 V ?_ ?_<;>intro h
  ·refine .LV [(vi x3.1.1.Period),(vi x3.1.1.Count),w5,w6] H 2 V (.wt V V ?_);obtain ⟨x8,q8,h⟩:=bs h;refine .Z3L (xs:=[(.agg [(vi x3.1.1.Period),(vi x3.1.1.Count),w5,w6]),(vi 0)]) (ys:=[(.agg (vs (Form.cs (Form.mk x3.1.1.Period x3.1.1.Count x3.1.1.Core x3.1.1.Odd)))),(vi 0)]) H V (.cons (.a (.cons (.v _) (.cons (.v _) (.cons (.ro hw5) (.cons (.ro hw6) .nil))))) (.cons (.c (.v _)) .nil)) (Zs q8) V nofun V λG H=>(.bV [(vi 0),(vi 364)] V (.wt V V (.binA (u:=(.agg [(vi x8.From),(vi x8.To)])) (w:=(.agg [(vi 0),(vi 364)])) (r:=.bool ((x8.From==0)&&((x8.To==364)&&true))) V V (by kernel_rfl) (λ_=>Z3i V V V V) V (.kT V (.nil ?_)))));obtain rfl:=sj h;exact ⟨EI V,H.wk (by omega)⟩
  refine .ps 4 V (.kF V (.nil ?_));obtain rfl:=sj h;exact ⟨EI V,H.wk (by omega)⟩
 refine .mV V ?_;obtain ⟨y5,hj5,h⟩:=bs h;refine .md H 5 [(78,(vb y5)),(1,(.ptr id1 2 0)),(6,(.ptr (b5+5) 4 0)),(9,(vi x4.1.2))] [.blk id1 44 [(.buf id2 6 7),(vi x4.2.2)],.blk id2 72 (kcells x4.2.1),.blk (b5+5) 29 [(vi x3.1.1.Period),(vi x3.1.1.Count),w5,w6]] V ?_ λe G H=>?_
 ·refine .sp hj5 V ?_ ?_<;>intro h
  ·refine .LV [(vi x3.1.1.Period),(vi x3.1.1.Count),w5,w6] H 2 V (.wt V V ?_);obtain ⟨x9,q9,h⟩:=bs h;refine .Z3L (xs:=[(.agg [(vi x3.1.1.Period),(vi x3.1.1.Count),w5,w6]),(vi 1)]) (ys:=[(.agg (vs (Form.cs (Form.mk x3.1.1.Period x3.1.1.Count x3.1.1.Core x3.1.1.Odd)))),(vi 1)]) H V (.cons (.a (.cons (.v _) (.cons (.v _) (.cons (.ro hw5) (.cons (.ro hw6) .nil))))) (.cons (.c (.v _)) .nil)) (Zs q9) V nofun V λG H=>(.bV [(vi 365),(vi 729)] V (.wt V V (.binA (u:=(.agg [(vi x9.From),(vi x9.To)])) (w:=(.agg [(vi 365),(vi 729)])) (r:=.bool ((x9.From==365)&&((x9.To==729)&&true))) V V (by kernel_rfl) (λ_=>Z3i V V V V) V (.kT V (.nil ?_)))));obtain rfl:=sj h;exact ⟨EI V,H.wk (by omega)⟩
  refine .ps 4 V (.kF V (.nil ?_));obtain rfl:=sj h;exact ⟨EI V,H.wk (by omega)⟩
 refine .mV V ?_;obtain ⟨y6,hj6,h⟩:=bs h;refine .md H 5 [(84,(vb y6)),(1,(.ptr id1 2 0)),(9,(vi x4.1.2))] [.blk id1 44 [(.buf id2 6 7),(vi x4.2.2)],.blk id2 72 (kcells x4.2.1)] V ?_ λe G H=>?_
 ·refine .sp hj6 V ?_ ?_<;>intro h
  ·refine .LV [(vi x3.1.1.Period),(vi x3.1.1.Count),w5,w6] H 2 V (.wt V V ?_);obtain ⟨x10,q10,h⟩:=bs h;refine .Z3L (xs:=[(.agg [(vi x3.1.1.Period),(vi x3.1.1.Count),w5,w6]),(vi 2)]) (ys:=[(.agg (vs (Form.cs (Form.mk x3.1.1.Period x3.1.1.Count x3.1.1.Core x3.1.1.Odd)))),(vi 2)]) H V (.cons (.a (.cons (.v _) (.cons (.v _) (.cons (.ro hw5) (.cons (.ro hw6) .nil))))) (.cons (.c (.v _)) .nil)) (Zs q10) V nofun V λG H=>(.bV [(vi 730),(vi 1095)] V (.wt V V (.binA (u:=(.agg [(vi x10.From),(vi x10.To)])) (w:=(.agg [(vi 730),(vi 1095)])) (r:=.bool ((x10.From==730)&&((x10.To==1095)&&true))) V V (by kernel_rfl) (λ_=>Z3i V V V V) V (.kT V (.nil ?_)))));obtain rfl:=sj h;exact ⟨EI V,(H.erase 2).wk (by omega)⟩
  refine .ps 4 V (.kF V (.nil ?_));obtain rfl:=sj h;exact ⟨EI V,(H.erase 2).wk (by omega)⟩
 refine .mV V ?_;refine .md H 3 [(88,(vb (y6&&(x4.1.2==80)))),(1,(.ptr id1 2 0))] [.blk id1 44 [(.buf id2 6 7),(vi x4.2.2)],.blk id2 72 (kcells x4.2.1)] V ?_ λe G H=>?_
 ·refine .split V V ?_ ?_<;>intro hc11
  ·refine .mV V (.iV V (.kT V (.nil ?_)));exact ⟨⟨Z3W hc11,V,U⟩,H.wk (by omega)⟩
  ·refine .ps 2 V (.kF V (.nil ?_));exact ⟨⟨Z3I hc11,V,U⟩,H.wk (by omega)⟩
 refine .mV V ?_;refine .md H 4 [(93,(vb ((y6&&(x4.1.2==80))&&(x4.2.2==3))))] [] V ?_ λe G H=>?_
 ·refine .split V V ?_ ?_<;>intro hc12
  ·refine .mP V (.wt V V ?_);refine .callI (cv:=.v (.fn 13)) (ys:=[(.ptr id1 2 0)]) (L:=[.blk id2 72 (kcells x4.2.1)]) [.blk id1 44 [(.buf id2 6 7),(vi x4.2.2)]] H rfl rfl (λT _ H=>made_call H) nofun rfl ?_;rintro _ _ G ⟨rfl,rfl⟩ H;replace H:Has G _ _ [.blk id1 44 [(.buf id2 6 7),(vi x4.2.2)],.blk id2 72 (kcells x4.2.1)]:=H;refine .iV V (.kT V (.nil ?_));exact ⟨⟨Z3W hc12,U⟩,((H.erase 1).erase 0).wk (by omega)⟩
  ·refine .ps 3 V (.kF V (.nil ?_));exact ⟨⟨Z3I hc12,U⟩,((H.erase 1).erase 0).wk (by omega)⟩
 refine .aV V (.na H λH=>(.ret ?_));obtain rfl:=sj h;exact Ends.eR V
theorem Z1j {r:Bool} (h:Z0O=r):Fn CZ 14 [] (vb r):=by
 subst h;exact Z3X Z2i
theorem Z4x {f:Form} {i:Int} {r:(List Span)×Int} (h:Z19 f i=some r):Fn CZ 16 [(.agg (vs (Form.cs f))),(vi i)] (.tup [(vl Span.cs r.1),(vi r.2)]):=lift rfl (gran_Get_fn h) rfl rfl
theorem Z6G {year:Int} {month:Int} {day:Int} {r:Int×Int} (h:Z03 year month day=some r):Fn CZ 15 [(vi year),(vi month),(vi day)] (.tup [(vi r.1),(vi r.2)]):=lift rfl (Z3s h) rfl rfl
theorem Z4u {days:Int} {r:Int} (h:Z0a days=some r):Fn CZ 17 [(vi days)] (vi r):=lift rfl (Z5A h) rfl rfl
end Go.Dn

namespace Go.Dn
open Go Go.Proofs
set_option maxRecDepth 100000
set_option maxHeartbeats 4000000
theorem Z26 {year:Int} {month:Int} {day:Int} {r:Bool} (h:Z7 year month day=some r):Fn CZ 5 [(vi year),(vi month),(vi day)] (vb r):=by
 refine Fn.go Tryd.func5 V λG H=>?_;unfold Z7 at h;refine .tR 1 V H λb1 G H=>(.aV V (.na H λH=>(.tR 9 V H λb2 G H=>(.mV V (.mV V (.mV V ?_))))));obtain ⟨x1,q1,h⟩:=bs h;refine .cV (Z6G q1) V (.m1 (.tup [(vi x1.1),(vi x1.2)]) V V (.xV V (.xV V (.aV V (.aV V (.na H λH=>(.then (.tR 2 V H λb3 G H=>?_))))))));refine .mV V (.iV V (.na H λH=>?_));refine .wh h V ?_ ?_<;>intro h
 ·refine .tR 2 V H λb4 G H=>(.cV (Z1j V) V (.aV V (.na H λH=>(.ret ?_))));obtain rfl:=sj h;exact Ends.eR V
 refine .skip (.tR 2 V H λb5 G H=>?_);refine .callFO (ys:=[]) H rfl new_call nofun rfl ?_;rintro _ _ G ⟨id1,id2,rfl,rfl⟩ H;replace H:Has G _ _ [.blk id1 44 [(.buf id2 6 7),(vi 0)],.blk id2 72 (kcells [none,none,none,none,none,none])]:=H;refine .aP V (.na H λH=>(.tR 7 V H λb6 G H=>(.mV V (.iV V (.iV V (.mV V (.iV V (.iV V ?_))))))));refine .aV V (.na H λH=>(.then (.tR 17 V H λb7 G H=>(.mV V (.bV [(.v (.str (ByteArray.mk #[100,97,121]))),(vi x1.1)] V (.mV V (.bV [(.v (.str (ByteArray.mk #[109,111,110,116,104]))),(vi (w64 ((w64 ((w64 ((w64 (year-1970))*12))+month))-1)))] V (.mV V ?_))))))));refine .mV V (.iV V (.rem (m:=(w64 (month-1))) (m':=3) V V (by decide) V (.iV V (.quo (m:=(w64 ((w64 ((w64 ((w64 ((w64 (year-1970))*12))+month))-1))-((w64 (month-1)).tmod 3)))) (m':=3) V V (by decide) V (.bV [(.v (.str (ByteArray.mk #[113,117,97,114,116,101,114]))),(vi (w64 ((w64 ((w64 ((w64 ((w64 ((w64 (year-1970))*12))+month))-1))-((w64 (month-1)).tmod 3))).tdiv 3)))] V (.mV V (.iV V (.bV [(.v (.str (ByteArray.mk #[121,101,97,114]))),(vi (w64 (year-1970)))] V ?_))))))));refine .Z3H (sz:=2) ([(Anon48.mk (ByteArray.mk #[100,97,121]) x1.1),(Anon48.mk (ByteArray.mk #[109,111,110,116,104]) (w64 ((w64 ((w64 ((w64 (year-1970))*12))+month))-1))),(Anon48.mk (ByteArray.mk #[113,117,97,114,116,101,114]) (w64 ((w64 ((w64 ((w64 ((w64 ((w64 (year-1970))*12))+month))-1))-((w64 (month-1)).tmod 3))).tdiv 3))),(Anon48.mk (ByteArray.mk #[121,101,97,114]) (w64 (year-1970)))].map Anon48.cs) H (by omega) (by omega) V V V V V V V V V λG H=>(.lenSt (c:=Anon48.cs) (xs:=[(Anon48.mk (ByteArray.mk #[100,97,121]) x1.1),(Anon48.mk (ByteArray.mk #[109,111,110,116,104]) (w64 ((w64 ((w64 ((w64 (year-1970))*12))+month))-1))),(Anon48.mk (ByteArray.mk #[113,117,97,114,116,101,114]) (w64 ((w64 ((w64 ((w64 ((w64 ((w64 (year-1970))*12))+month))-1))-((w64 (month-1)).tmod 3))).tdiv 3))),(Anon48.mk (ByteArray.mk #[121,101,97,114]) (w64 (year-1970)))]) H 0 V V V nofun V (.mV V (.na H λH=>(.inBlock ?_))))
 obtain ⟨y1,hj1,h⟩:=bs h;obtain ⟨n1,hj1⟩:=Zu.1 hj1;refine .mono (Runs.loopO hj1 (λs1 e G=>Zd e [(7,(vi x1.1)),(9,(.ptr id1 2 0)),(54,(.buf (b7+14) 4 2)),(55,(vi ([(Anon48.mk (ByteArray.mk #[100,97,121]) x1.1),(Anon48.mk (ByteArray.mk #[109,111,110,116,104]) (w64 ((w64 ((w64 ((w64 (year-1970))*12))+month))-1))),(Anon48.mk (ByteArray.mk #[113,117,97,114,116,101,114]) (w64 ((w64 ((w64 ((w64 ((w64 ((w64 (year-1970))*12))+month))-1))-((w64 (month-1)).tmod 3))).tdiv 3))),(Anon48.mk (ByteArray.mk #[121,101,97,114]) (w64 (year-1970)))].length:Int))),(56,(vi s1.1))]/\Hs G [.sl (.buf (b7+14) 4 2) 48 2 ([(Anon48.mk (ByteArray.mk #[100,97,121]) x1.1),(Anon48.mk (ByteArray.mk #[109,111,110,116,104]) (w64 ((w64 ((w64 ((w64 (year-1970))*12))+month))-1))),(Anon48.mk (ByteArray.mk #[113,117,97,114,116,101,114]) (w64 ((w64 ((w64 ((w64 ((w64 ((w64 (year-1970))*12))+month))-1))-((w64 (month-1)).tmod 3))).tdiv 3))),(Anon48.mk (ByteArray.mk #[121,101,97,114]) (w64 (year-1970)))].map Anon48.cs) true,.blk id1 44 [(.buf id2 6 7),(vi s1.2.1)],.blk id2 72 (kcells s1.2.2)]) (λy1 x e G=>(∃ a1,y1=(.go a1)/\x = .exit 0/\Zd e [(7,(vi x1.1)),(9,(.ptr id1 2 0))]/\Hs G [.blk id1 44 [(.buf id2 6 7),(vi a1.1)],.blk id2 72 (kcells a1.2)])\/(∃ r',y1=(.ret r')/\x = .ret/\Ends CZ Tryd.f5.results.toList (vb r') x e G)) ⟨EI V,H⟩ ?_) ?_
 ·intro s1 e G hI z h;obtain ⟨he,H⟩:=hI;obtain ⟨e,rfl⟩:=he.ex;unfold Z7.s0 at h;refine .tR 1 V H λb8 G H=>(.iV V (.na H λH=>(.then ?_)));refine .wh h V ?_ ?_<;>intro h
  ·refine .skip (.then (.inBlock (.tR 4 V H λb9 G H=>?_)));obtain ⟨x2,q2,h⟩:=bs h;refine .Z2y H 0 V V V (at?_map q2) V V nofun V ?_;intro id3 hv1;refine .loadSA (id:=id3) H 0 V hv1 (by simp) (at?_map q2) V V V V nofun V ?_;refine .alc (cs:=[(.v (.str ByteArray.empty)),(vi 0)]) H V V λG H=>(.sV [(.v (.str x2.name)),(vi x2.index)] H 0 V λG H=>(.na H λH=>(.tR 10 V H λb10 G H=>(.mP V (.fV H 0 V (.lV H 0 V ?_))))));replace H:Has G _ _ [.blk id1 44 [(.buf id2 6 7),(vi s1.2.1)],.blk id2 72 (kcells s1.2.2),.blk (b9+2) 48 [(.v (.str x2.name)),(vi x2.index)],.sl (.buf (b7+14) 4 2) 48 2 ([(Anon48.mk (ByteArray.mk #[100,97,121]) x1.1),(Anon48.mk (ByteArray.mk #[109,111,110,116,104]) (w64 ((w64 ((w64 ((w64 (year-1970))*12))+month))-1))),(Anon48.mk (ByteArray.mk #[113,117,97,114,116,101,114]) (w64 ((w64 ((w64 ((w64 ((w64 ((w64 (year-1970))*12))+month))-1))-((w64 (month-1)).tmod 3))).tdiv 3))),(Anon48.mk (ByteArray.mk #[121,101,97,114]) (w64 (year-1970)))].map Anon48.cs) true]:=H.pick [2,3,0,1] (by decide);obtain ⟨x3,q3,h⟩:=bs h;refine .callI (cv:=.v (.fn 10)) (ys:=[(.ptr id1 2 0),(.v (.str x2.name))]) (L:=[.blk (b9+2) 48 [(.v (.str x2.name)),(vi x2.index)],.sl (.buf (b7+14) 4 2) 48 2 ([(Anon48.mk (ByteArray.mk #[100,97,121]) x1.1),(Anon48.mk (ByteArray.mk #[109,111,110,116,104]) (w64 ((w64 ((w64 ((w64 (year-1970))*12))+month))-1))),(Anon48.mk (ByteArray.mk #[113,117,97,114,116,101,114]) (w64 ((w64 ((w64 ((w64 ((w64 ((w64 (year-1970))*12))+month))-1))-((w64 (month-1)).tmod 3))).tdiv 3))),(Anon48.mk (ByteArray.mk #[121,101,97,114]) (w64 (year-1970)))].map Anon48.cs) true]) [.blk id1 44 [(.buf id2 6 7),(vi s1.2.1)],.blk id2 72 (kcells s1.2.2)] H rfl rfl (λT _ H=>Z1w (g:=x3.1.1) (e:=x3.1.2) (ks':=x3.2.1) (m':=x3.2.2) q3 H) nofun rfl ?_;rintro _ _ G ⟨w1,w2,hw1,hw2,rfl,rfl⟩ H
   replace H:Has G _ _ [.blk id1 44 [(.buf id2 6 7),(vi x3.2.2)],.blk id2 72 (kcells x3.2.1),.blk (b9+2) 48 [(.v (.str x2.name)),(vi x2.index)],.sl (.buf (b7+14) 4 2) 48 2 ([(Anon48.mk (ByteArray.mk #[100,97,121]) x1.1),(Anon48.mk (ByteArray.mk #[109,111,110,116,104]) (w64 ((w64 ((w64 ((w64 (year-1970))*12))+month))-1))),(Anon48.mk (ByteArray.mk #[113,117,97,114,116,101,114]) (w64 ((w64 ((w64 ((w64 ((w64 ((w64 (year-1970))*12))+month))-1))-((w64 (month-1)).tmod 3))).tdiv 3))),(Anon48.mk (ByteArray.mk #[121,101,97,114]) (w64 (year-1970)))].map Anon48.cs) true]:=H;refine .m1 (.tup [(.agg [(vi x3.1.1.Period),(vi x3.1.1.Count),w1,w2]),(vi x3.1.2)]) V V (.xV V (.xV V (.alc (cs:=[(vi 0),(vi 0),.nils,.nils]) H V V λG H=>(.sV [(vi x3.1.1.Period),(vi x3.1.1.Count),w1,w2] H 0 V λG H=>(.aV V (.na H λH=>(.tR 9 V H λb11 G H=>(.LV [(vi x3.1.1.Period),(vi x3.1.1.Count),w1,w2] H 0 V ?_))))))));refine .fV H 3 V (.lV H 3 V ?_);obtain ⟨x4,q4,h⟩:=bs h;refine .Z3L (xs:=[(.agg [(vi x3.1.1.Period),(vi x3.1.1.Count),w1,w2]),(vi x2.index)]) (ys:=[(.agg (vs (Form.cs (Form.mk x3.1.1.Period x3.1.1.Count x3.1.1.Core x3.1.1.Odd)))),(vi x2.index)]) H V (.cons (.a (.cons (.v _) (.cons (.v _) (.cons (.ro hw1) (.cons (.ro hw2) .nil))))) (.cons (.c (.v _)) .nil)) (Z4x q4) V nofun V λG H=>(.m1 (.tup [(vl Span.cs x4.1),(vi x4.2)]) V V (.xV V (.xV V (.aV V (.aV V (.na H λH=>(.tR 27 V H λb12 G H=>(.mV V ?_))))))));refine .iV V (.mV V ?_);refine .md H 3 [(79,(vb ((x3.1.2 != 0)||(x4.2 != 0)))),(7,(vi x1.1)),(9,(.ptr id1 2 0)),(15,(vl Span.cs x4.1)),(54,(.buf (b7+14) 4 2)),(55,(vi ([(Anon48.mk (ByteArray.mk #[100,97,121]) x1.1),(Anon48.mk (ByteArray.mk #[109,111,110,116,104]) (w64 ((w64 ((w64 ((w64 (year-1970))*12))+month))-1))),(Anon48.mk (ByteArray.mk #[113,117,97,114,116,101,114]) (w64 ((w64 ((w64 ((w64 ((w64 ((w64 (year-1970))*12))+month))-1))-((w64 (month-1)).tmod 3))).tdiv 3))),(Anon48.mk (ByteArray.mk #[121,101,97,114]) (w64 (year-1970)))].length:Int))),(56,(vi s1.1))] [.blk id1 44 [(.buf id2 6 7),(vi x3.2.2)],.blk id2 72 (kcells x3.2.1),.sl (.buf (b7+14) 4 2) 48 2 ([(Anon48.mk (ByteArray.mk #[100,97,121]) x1.1),(Anon48.mk (ByteArray.mk #[109,111,110,116,104]) (w64 ((w64 ((w64 ((w64 (year-1970))*12))+month))-1))),(Anon48.mk (ByteArray.mk #[113,117,97,114,116,101,114]) (w64 ((w64 ((w64 ((w64 ((w64 ((w64 (year-1970))*12))+month))-1))-((w64 (month-1)).tmod 3))).tdiv 3))),(Anon48.mk (ByteArray.mk #[121,101,97,114]) (w64 (year-1970)))].map Anon48.cs) true] rfl ?_ λe G H=>?_
   ·refine .split V V ?_ ?_<;>intro hc3
    ·refine .ps 2 V (.kT V (.nil ?_));exact ⟨⟨or_T hc3,V,V,V,V,V,V,U⟩,((H.erase 3).erase 0).wk (by omega)⟩
    ·refine .mV V (.iV V (.kF V (.nil ?_)));exact ⟨⟨or_F hc3,V,V,V,V,V,V,U⟩,((H.erase 3).erase 0).wk (by omega)⟩
   refine .mV V ?_;refine .md H 4 [(84,(vb (((x3.1.2 != 0)||(x4.2 != 0))||((x4.1.length:Int) != 1)))),(7,(vi x1.1)),(9,(.ptr id1 2 0)),(15,(vl Span.cs x4.1)),(54,(.buf (b7+14) 4 2)),(55,(vi ([(Anon48.mk (ByteArray.mk #[100,97,121]) x1.1),(Anon48.mk (ByteArray.mk #[109,111,110,116,104]) (w64 ((w64 ((w64 ((w64 (year-1970))*12))+month))-1))),(Anon48.mk (ByteArray.mk #[113,117,97,114,116,101,114]) (w64 ((w64 ((w64 ((w64 ((w64 ((w64 (year-1970))*12))+month))-1))-((w64 (month-1)).tmod 3))).tdiv 3))),(Anon48.mk (ByteArray.mk #[121,101,97,114]) (w64 (year-1970)))].length:Int))),(56,(vi s1.1))] [.blk id1 44 [(.buf id2 6 7),(vi x3.2.2)],.blk id2 72 (kcells x3.2.1),.sl (.buf (b7+14) 4 2) 48 2 ([(Anon48.mk (ByteArray.mk #[100,97,121]) x1.1),(Anon48.mk (ByteArray.mk #[109,111,110,116,104]) (w64 ((w64 ((w64 ((w64 (year-1970))*12))+month))-1))),(Anon48.mk (ByteArray.mk #[113,117,97,114,116,101,114]) (w64 ((w64 ((w64 ((w64 ((w64 ((w64 (year-1970))*12))+month))-1))-((w64 (month-1)).tmod 3))).tdiv 3))),(Anon48.mk (ByteArray.mk #[121,101,97,114]) (w64 (year-1970)))].map Anon48.cs) true] rfl ?_ λe G H=>?_
   ·refine .split V V ?_ ?_<;>intro hc4
    ·refine .ps 3 V (.kT V (.nil ?_));exact ⟨⟨or_T hc4,V,V,V,V,V,V,U⟩,H.wk (by omega)⟩
    ·refine .mV V (.nV V (.iV V (.kF V (.nil ?_))));exact ⟨⟨or_F hc4,V,V,V,V,V,V,U⟩,H.wk (by omega)⟩
   refine .mV V ?_;obtain ⟨y2,hj2,h⟩:=bs h;refine .md H 7 [(92,(vb y2)),(7,(vi x1.1)),(9,(.ptr id1 2 0)),(15,(vl Span.cs x4.1)),(54,(.buf (b7+14) 4 2)),(55,(vi ([(Anon48.mk (ByteArray.mk #[100,97,121]) x1.1),(Anon48.mk (ByteArray.mk #[109,111,110,116,104]) (w64 ((w64 ((w64 ((w64 (year-1970))*12))+month))-1))),(Anon48.mk (ByteArray.mk #[113,117,97,114,116,101,114]) (w64 ((w64 ((w64 ((w64 ((w64 ((w64 (year-1970))*12))+month))-1))-((w64 (month-1)).tmod 3))).tdiv 3))),(Anon48.mk (ByteArray.mk #[121,101,97,114]) (w64 (year-1970)))].length:Int))),(56,(vi s1.1))] [.blk id1 44 [(.buf id2 6 7),(vi x3.2.2)],.blk id2 72 (kcells x3.2.1),.sl (.buf (b7+14) 4 2) 48 2 ([(Anon48.mk (ByteArray.mk #[100,97,121]) x1.1),(Anon48.mk (ByteArray.mk #[109,111,110,116,104]) (w64 ((w64 ((w64 ((w64 (year-1970))*12))+month))-1))),(Anon48.mk (ByteArray.mk #[113,117,97,114,116,101,114]) (w64 ((w64 ((w64 ((w64 ((w64 ((w64 (year-1970))*12))+month))-1))-((w64 (month-1)).tmod 3))).tdiv 3))),(Anon48.mk (ByteArray.mk #[121,101,97,114]) (w64 (year-1970)))].map Anon48.cs) true] V ?_ λe G H=>?_
   ·refine .sp hj2 V ?_ ?_<;>intro h
    ·refine .ps 6 V (.kT V (.nil ?_));obtain rfl:=sj h;exact ⟨EI V,H.wk (by omega)⟩
    refine .mV V (.mV V (.wt V V ?_));obtain ⟨x5,q5,h⟩:=bs h;refine .jV q5 V (.wt V V (.Z0g V V V V (.pV V (.iV V (.kF V (.nil ?_))))));obtain rfl:=sj h;exact ⟨EI V,H.wk (by omega)⟩
   refine .mV V ?_;obtain ⟨y3,hj3,h⟩:=bs h;refine .md H 7 [(100,(vb y3)),(7,(vi x1.1)),(9,(.ptr id1 2 0)),(54,(.buf (b7+14) 4 2)),(55,(vi ([(Anon48.mk (ByteArray.mk #[100,97,121]) x1.1),(Anon48.mk (ByteArray.mk #[109,111,110,116,104]) (w64 ((w64 ((w64 ((w64 (year-1970))*12))+month))-1))),(Anon48.mk (ByteArray.mk #[113,117,97,114,116,101,114]) (w64 ((w64 ((w64 ((w64 ((w64 ((w64 (year-1970))*12))+month))-1))-((w64 (month-1)).tmod 3))).tdiv 3))),(Anon48.mk (ByteArray.mk #[121,101,97,114]) (w64 (year-1970)))].length:Int))),(56,(vi s1.1))] [.blk id1 44 [(.buf id2 6 7),(vi x3.2.2)],.blk id2 72 (kcells x3.2.1),.sl (.buf (b7+14) 4 2) 48 2 ([(Anon48.mk (ByteArray.mk #[100,97,121]) x1.1),(Anon48.mk (ByteArray.mk #[109,111,110,116,104]) (w64 ((w64 ((w64 ((w64 (year-1970))*12))+month))-1))),(Anon48.mk (ByteArray.mk #[113,117,97,114,116,101,114]) (w64 ((w64 ((w64 ((w64 ((w64 ((w64 (year-1970))*12))+month))-1))-((w64 (month-1)).tmod 3))).tdiv 3))),(Anon48.mk (ByteArray.mk #[121,101,97,114]) (w64 (year-1970)))].map Anon48.cs) true] V ?_ λe G H=>?_
   ·refine .sp hj3 V ?_ ?_<;>intro h
    ·refine .ps 6 V (.kT V (.nil ?_));obtain rfl:=sj h;exact ⟨EI V,H.wk (by omega)⟩
    refine .mV V (.mV V (.wt V V ?_));obtain ⟨x6,q6,h⟩:=bs h;refine .jV q6 V (.wt V V (.Z0g V V V V (.pV V (.iV V (.kF V (.nil ?_))))));obtain rfl:=sj h;exact ⟨EI V,H.wk (by omega)⟩
   refine .na H λH=>?_;refine .wh h V ?_ ?_<;>intro h
   ·refine .tR 1 V H λb13 G H=>(.aV V (.na H λH=>(.ret ?_)));obtain rfl:=sj h;exact ⟨nofun,(.inr ⟨_,V,V,(Ends.H (xs:=[(vb false)]) (.inr V) H (.tmp (v:=(vb false)) V .nil) (.one (.c (.v _))))⟩)⟩
   refine .skip (.Za 2 V H λb14 G H=>(.iV V (.mV V (.na H λH=>?_))));obtain rfl:=sj h;exact ⟨V,EI V,(H.pick [2,0,1] (by decide))⟩
  refine .exit ?_;obtain rfl:=sj h;exact ⟨nofun,(.inl ⟨_,V,V,EI V,(H.erase 0)⟩)⟩
 ·rintro x e G (⟨a2,rfl,rfl,he,H⟩|⟨r',rfl,rfl,hE⟩)
  ·replace h:=jgo h;obtain ⟨e,rfl⟩:=he.ex;refine .tR 8 V H λb15 G H=>(.mP V ?_);obtain ⟨x7,q7,h⟩:=bs h;refine .callI (cv:=.v (.fn 10)) (ys:=[(.ptr id1 2 0),(.v (.str (ByteArray.mk #[119,101,101,107])))]) (L:=[]) [.blk id1 44 [(.buf id2 6 7),(vi a2.1)],.blk id2 72 (kcells a2.2)] H rfl rfl (λT _ H=>Z1w (g:=x7.1.1) (e:=x7.1.2) (ks':=x7.2.1) (m':=x7.2.2) q7 H) nofun rfl ?_;rintro _ _ G ⟨w3,w4,hw3,hw4,rfl,rfl⟩ H;replace H:Has G _ _ [.blk id1 44 [(.buf id2 6 7),(vi x7.2.2)],.blk id2 72 (kcells x7.2.1)]:=H;refine .m1 (.tup [(.agg [(vi x7.1.1.Period),(vi x7.1.1.Count),w3,w4]),(vi x7.1.2)]) V V (.xV V (.xV V (.alc (cs:=[(vi 0),(vi 0),.nils,.nils]) H V V λG H=>(.sV [(vi x7.1.1.Period),(vi x7.1.1.Count),w3,w4] H 0 V λG H=>(.aV V (.na H λH=>(.tR 4 V H λb16 G H=>(.mV V ?_))))))));refine .quo (m:=x1.1) (m':=7) V V (by decide) V (.iV V (.aV V (.na H λH=>(.then (.tR 2 V H λb17 G H=>(.mV V (.aV V (.na H λH=>?_))))))));refine .inBlock ?_;obtain ⟨y4,hj4,h⟩:=bs h;obtain ⟨n2,hj4⟩:=Zu.1 hj4;refine .mono (Runs.loopO hj4 (λs2 e G=>Zd e [(7,(vi x1.1)),(17,(.ptr (b15+5) 4 0)),(18,(vi x7.1.2)),(19,(vi (w64 ((w64 (x1.1.tdiv 7))-1)))),(20,(vi s2))]/\Hs G [.blk (b15+5) 29 [(vi x7.1.1.Period),(vi x7.1.1.Count),w3,w4]]) (λy4 x e G=>(∃ a3,y4=(.go a3)/\x = .exit 2/\Zd e []/\Hs G [])\/(∃ r',y4=(.ret r')/\x = .ret/\Ends CZ Tryd.f5.results.toList (vb r') x e G)) ⟨EI V,((H.erase 2).erase 1)⟩ ?_) ?_
   ·intro s2 e G hI z h;obtain ⟨he,H⟩:=hI;obtain ⟨e,rfl⟩:=he.ex;unfold Z7.s1 at h;refine .then (.tR 4 V H λb18 G H=>(.mV V (.mV V (.iV V (.iV V (.na H λH=>?_))))));refine .wh h V ?_ ?_<;>intro h
    ·refine .skip (.then (.inBlock (.tR 8 V H λb19 G H=>(.LV [(vi x7.1.1.Period),(vi x7.1.1.Count),w3,w4] H 0 V (.mV V ?_)))));obtain ⟨x8,q8,h⟩:=bs h;refine .Z3L (xs:=[(.agg [(vi x7.1.1.Period),(vi x7.1.1.Count),w3,w4]),(vi s2)]) (ys:=[(.agg (vs (Form.cs (Form.mk x7.1.1.Period x7.1.1.Count x7.1.1.Core x7.1.1.Odd)))),(vi s2)]) H V (.cons (.a (.cons (.v _) (.cons (.v _) (.cons (.ro hw3) (.cons (.ro hw4) .nil))))) (.cons (.c (.v _)) .nil)) (Z4x q8) V nofun V λG H=>(.m1 (.tup [(vl Span.cs x8.1),(vi x8.2)]) V V (.xV V (.xV V (.aV V (.aV V (.na H λH=>(.then (.then ?_))))))));refine .Z0v 31 V (by kernel_rfl) H λb20 G H B20=>(.mV V (.iV V (.mV V ?_)));refine .md H 3 [(128,(vb ((x7.1.2 != 0)||(x8.2 != 0)))),(7,(vi x1.1)),(17,(.ptr (b15+5) 4 0)),(18,(vi x7.1.2)),(19,(vi (w64 ((w64 (x1.1.tdiv 7))-1)))),(20,(vi s2)),(21,(vl Span.cs x8.1))] [.blk (b15+5) 29 [(vi x7.1.1.Period),(vi x7.1.1.Count),w3,w4]] rfl ?_ λe G H=>?_
     ·refine .split V V ?_ ?_<;>intro hc9
      ·refine .ps 2 V (.kT V (.nil ?_));exact ⟨⟨or_T hc9,V,V,V,V,V,V,U⟩,H.wk (by omega)⟩
      ·refine .mV V (.iV V (.kF V (.nil ?_)));exact ⟨⟨or_F hc9,V,V,V,V,V,V,U⟩,H.wk (by omega)⟩
     refine .mV V ?_;refine .md H 4 [(133,(vb (((x7.1.2 != 0)||(x8.2 != 0))||((x8.1.length:Int) != 1)))),(7,(vi x1.1)),(17,(.ptr (b15+5) 4 0)),(18,(vi x7.1.2)),(19,(vi (w64 ((w64 (x1.1.tdiv 7))-1)))),(20,(vi s2)),(21,(vl Span.cs x8.1))] [.blk (b15+5) 29 [(vi x7.1.1.Period),(vi x7.1.1.Count),w3,w4]] rfl ?_ λe G H=>?_
     ·refine .split V V ?_ ?_<;>intro hc10
      ·refine .ps 3 V (.kT V (.nil ?_));exact ⟨⟨or_T hc10,V,V,V,V,V,V,U⟩,H.wk (by omega)⟩
      ·refine .mV V (.nV V (.iV V (.kF V (.nil ?_))));exact ⟨⟨or_F hc10,V,V,V,V,V,V,U⟩,H.wk (by omega)⟩
     refine .mV V ?_;obtain ⟨y5,hj5,h⟩:=bs h;refine .md H 7 [(141,(vb y5)),(7,(vi x1.1)),(17,(.ptr (b15+5) 4 0)),(18,(vi x7.1.2)),(19,(vi (w64 ((w64 (x1.1.tdiv 7))-1)))),(20,(vi s2)),(21,(vl Span.cs x8.1))] [.blk (b15+5) 29 [(vi x7.1.1.Period),(vi x7.1.1.Count),w3,w4]] V ?_ λe G H=>?_
     ·refine .sp hj5 V ?_ ?_<;>intro h
      ·refine .ps 6 V (.kT V (.nil ?_));obtain rfl:=sj h;exact ⟨EI V,H.wk (by omega)⟩
      refine .mV V (.wt V V ?_);obtain ⟨x9,q9,h⟩:=bs h;refine .jV q9 V (.wt V V (.Z0g V V V V (.pV V (.wt V V ?_))));obtain ⟨x10,q10,h⟩:=bs h;refine .cV (Z4u q10) V (.iV V (.kF V (.nil ?_)));obtain rfl:=sj h;exact ⟨EI V,H.wk (by omega)⟩
     refine .mV V ?_;obtain ⟨y6,hj6,h⟩:=bs h;refine .md H 11 [(153,(vb y6)),(7,(vi x1.1)),(17,(.ptr (b15+5) 4 0)),(18,(vi x7.1.2)),(19,(vi (w64 ((w64 (x1.1.tdiv 7))-1)))),(20,(vi s2)),(21,(vl Span.cs x8.1))] [.blk (b15+5) 29 [(vi x7.1.1.Period),(vi x7.1.1.Count),w3,w4]] V ?_ λe G H=>?_
     ·refine .sp hj6 V ?_ ?_<;>intro h
      ·refine .ps 10 V (.kT V (.nil ?_));obtain rfl:=sj h;exact ⟨EI V,H.wk (by omega)⟩
      refine .mV V (.wt V V ?_);obtain ⟨x11,q11,h⟩:=bs h;refine .jV q11 V (.wt V V (.Z0g V V V V (.pV V (.mV V (.wt V V ?_)))));obtain ⟨x12,q12,h⟩:=bs h;refine .jV q12 V (.wt V V (.Z0g V V V V (.pV V (.iV V (.iV V (.kF V (.nil ?_)))))));obtain rfl:=sj h;exact ⟨EI V,H.wk (by omega)⟩
     refine .na H λH=>?_;refine .wh h V ?_ ?_<;>intro h
     ·refine .tR 1 V H λb21 G H=>(.aV V (.na H λH=>(.ret ?_)));obtain rfl:=sj h;exact ⟨nofun,(.inr ⟨_,V,V,(Ends.H (xs:=[(vb false)]) (.inr V) H (.tmp (v:=(vb false)) V .nil) (.one (.c (.v _))))⟩)⟩
     refine .skip (.tR 14 V H λb22 G H=>(.mV V (.mV V ?_)));obtain ⟨x13,q13,h⟩:=bs h;refine .jV q13 V (.Z0g V V V V (.pV V (.iV V (.mV V ?_))));obtain ⟨y7,hj7,h⟩:=bs h;refine .md H 7 [(167,(vb y7)),(7,(vi x1.1)),(17,(.ptr (b15+5) 4 0)),(18,(vi x7.1.2)),(19,(vi (w64 ((w64 (x1.1.tdiv 7))-1)))),(20,(vi s2))] [.blk (b15+5) 29 [(vi x7.1.1.Period),(vi x7.1.1.Count),w3,w4]] V ?_ λe G H=>?_
     ·refine .sp hj7 V ?_ ?_<;>intro h
      ·refine .mV V (.mV V (.wt V V ?_));obtain ⟨x14,q14,h⟩:=bs h;refine .jV q14 V (.wt V V (.Z0g V V V V (.pV V (.iV V (.kT V (.nil ?_))))));obtain rfl:=sj h;exact ⟨EI V,H.wk (by omega)⟩
      refine .ps 6 V (.kF V (.nil ?_));obtain rfl:=sj h;exact ⟨EI V,H.wk (by omega)⟩
     refine .na H λH=>?_;refine .wh h V ?_ ?_<;>intro h
     ·refine .tR 2 V H λb23 G H=>(.cV (Z1j V) V (.aV V (.na H λH=>(.ret ?_))));obtain rfl:=sj h;exact ⟨nofun,(.inr ⟨_,V,V,(Ends.H (xs:=[(vb Z0O)]) (.inr V) H (.tmp (v:=(vb Z0O)) V .nil) (.one (.c (.v _))))⟩)⟩
     refine .skip (.Za 3 V H λb24 G H=>(.mV V (.iV V (.aV V (.na H λH=>?_)))));obtain rfl:=sj h;exact ⟨V,EI V,H⟩
    refine .exit ?_;obtain rfl:=sj h;exact ⟨nofun,(.inl ⟨_,V,V,U,(H.erase 0)⟩)⟩
   ·rintro x e G (⟨a4,rfl,rfl,he,H⟩|⟨r',rfl,rfl,hE⟩)
    ·replace h:=jgo h;obtain ⟨e,rfl⟩:=he.ex;refine .tR 1 V H λb25 G H=>(.aV V (.na H λH=>(.ret ?_)));obtain rfl:=sj h;exact Ends.eR V
    ·replace h:=jret h;obtain rfl:=sj h;exact hE
  ·replace h:=jret h;obtain rfl:=sj h;exact hE
end Go.Dn

namespace Go.Dn
open Go
def In64 (a:Int):Prop:=-9223372036854775808<=a/\a<=9223372036854775807
def Z45 (a:Int):Prop:=0<=a/\a<=18446744073709551615
def fitS (a:Int):Int×Int:=if -9223372036854775808<=a/\a<=9223372036854775807 then (a,0) else (0,10)
theorem fitS_of {a:Int} (h:In64 a):fitS a=(a,0):=if_pos h
theorem fitS_not {a:Int} (h:¬ In64 a):fitS a=(0,10):=if_neg h
theorem fit_or (x:Int):(In64 x/\fitS x=(x,0))\/(¬ In64 x/\fitS x=(0,10)):=by
 by_cases h:In64 x
 ·exact .inl ⟨h,fitS_of h⟩
 ·exact .inr ⟨h,fitS_not h⟩
theorem and32 (x:Int) (h:Z45 x):(((BitVec.ofInt 64 x &&& BitVec.ofInt 64 4294967295).toNat:Nat):Int)=x % 4294967296:=by
 obtain ⟨n,rfl⟩:=Int.eq_ofNat_of_zero_le h.1
 have hn:n<2 ^ 64:=by have:=h.2;omega
 have h1:(BitVec.ofInt 64 (n:Int)).toNat=n:=by simp [BitVec.toNat_ofInt];omega
 have h2:(BitVec.ofInt 64 4294967295).toNat=2 ^ 32-1:=by decide
 rw [BitVec.toNat_and,h1,h2,Y0H]
 omega
theorem mul64_fact {x y:Int} (hx:Z45 x) (hy:Z45 y) :
  (x / 4294967296*(y / 4294967296)+(x / 4294967296*(y % 4294967296)+x % 4294967296*(y % 4294967296) / 4294967296) / 4294967296 +
   ((x / 4294967296*(y % 4294967296)+x % 4294967296*(y % 4294967296) / 4294967296) % 4294967296+x % 4294967296*(y / 4294967296)) / 4294967296)=x*y / 18446744073709551616 /\
  0<=x % 4294967296*(y % 4294967296)/\x % 4294967296*(y % 4294967296)<=18446744065119617025 /\
  0<=x / 4294967296*(y % 4294967296)/\x / 4294967296*(y % 4294967296)<=18446744065119617025 /\
  0<=x % 4294967296*(y / 4294967296)/\x % 4294967296*(y / 4294967296)<=18446744065119617025 /\
  0<=x / 4294967296*(y / 4294967296)/\x / 4294967296*(y / 4294967296)<=18446744065119617025:=by
 have b:∀ {u v:Int},0<=u->u<=4294967295->0<=v->v<=4294967295->0<=u*v/\u*v<=18446744065119617025:=by
  intro u v h1 h2 h3 h4;exact ⟨Int.mul_nonneg h1 h3,Int.le_trans (Int.mul_le_mul h2 h4 h3 (by omega)) (by decide)⟩
 obtain ⟨hx1,hx2⟩:=hx
 obtain ⟨hy1,hy2⟩:=hy
 obtain ⟨a1,a2⟩:=b (u:=x % 4294967296) (v:=y % 4294967296) (by omega) (by omega) (by omega) (by omega)
 obtain ⟨b1,b2⟩:=b (u:=x / 4294967296) (v:=y % 4294967296) (by omega) (by omega) (by omega) (by omega)
 obtain ⟨c1,c2⟩:=b (u:=x % 4294967296) (v:=y / 4294967296) (by omega) (by omega) (by omega) (by omega)
 obtain ⟨d1,d2⟩:=b (u:=x / 4294967296) (v:=y / 4294967296) (by omega) (by omega) (by omega) (by omega)
 refine ⟨?_,a1,a2,b1,b2,c1,c2,d1,d2⟩
 have e:x*y=x / 4294967296*(y / 4294967296)*18446744073709551616+(x / 4294967296*(y % 4294967296)+x % 4294967296*(y / 4294967296))*4294967296+x % 4294967296*(y % 4294967296):=by
  have ex:x=x / 4294967296*4294967296+x % 4294967296:=by omega
  have ey:y=y / 4294967296*4294967296+y % 4294967296:=by omega
  clear a1 a2 b1 b2 c1 c2 d1 d2 b hx1 hx2 hy1 hy2
  generalize x / 4294967296=x1 at *
  generalize x % 4294967296=x0 at *
  generalize y / 4294967296=y1 at *
  generalize y % 4294967296=y0 at *
  subst ex ey;simp only [Int.add_mul,Y0a];have h1:x1*4294967296*(y1*4294967296)=x1*y1*18446744073709551616:=by
   rw [Y0W,Int.mul_comm 4294967296,Y0W y1,<- Y0W]
   rfl
  have h2:x1*4294967296*y0=x1*y0*4294967296:=by rw [Y0W,Int.mul_comm 4294967296,<- Y0W]
  have h3:x0*(y1*4294967296)=x0*y1*4294967296:=by rw [<- Y0W]
  rw [h1,h2,h3];omega
 rw [e]
 generalize x / 4294967296*(y / 4294967296)=d at *
 generalize x / 4294967296*(y % 4294967296)=b' at *
 generalize x % 4294967296*(y / 4294967296)=c at *
 generalize x % 4294967296*(y % 4294967296)=a at *
 omega
theorem Z5i {a b:Int} (ha:In64 a) (hb:In64 b):ZG a b=fitS (a+b):=by
 unfold In64 at ha hb
 unfold ZG fitS w64
 rw [Z21]
 cases h:((decide ((a+b+9223372036854775808) % 18446744073709551616-9223372036854775808>a) != decide (b>0))&&b != 0)
 ·rw [cond_false];simp only [Bool.and_eq_false_iff,bne_eq_false_iff_eq,decide_eq_decide] at h
  split<;>simp only [Y5,and_true]<;>omega
 ·rw [cond_true];simp only [YD,bne_iff_ne,ne_eq,decide_eq_decide] at h
  split<;>simp only [Y5]<;>omega
theorem Z4p {a:Int} (h:In64 a):Z01 a=a.natAbs:=by
 unfold In64 at h
 unfold Z01
 rw [pickB]
 simp only [decide_eq_true_eq,Z3S]
 split<;>omega
theorem inU_abs {a:Int} (h:In64 a):Z45 a.natAbs:=by unfold In64 at h;unfold Z45;omega
theorem natAbs_prod (a b:Int):(a.natAbs:Int)*b.natAbs=(a*b).natAbs:=by rw [Int.natAbs_mul];simp
theorem mul64_eq {x y:Int} (hx:Z45 x) (hy:Z45 y):Zl x y=(x*y / 18446744073709551616,x*y % 18446744073709551616):=by
 unfold Zl
 have hb:∀ z:Int,z.fdiv (2 ^ 32)=z / 4294967296:=λz=>Y0S z (by decide)
 have hm:(IntKind.u64.bits)=64:=rfl
 obtain ⟨h1,h2,h3,h4,h5,h6,h7,h8,h9⟩:=mul64_fact hx hy
 have hw:∀ z:Int,0<=z->z<=18446744073709551615->IntKind.u64.wrap z=z:=λz q1 q2=>by rw [Z3S];omega
 simp only [hb,iAnd]
 rw [hm,and32 x hx,and32 y hy]
 have x0:0<=x % 4294967296/\x % 4294967296<4294967296:=by omega
 have y0:0<=y % 4294967296/\y % 4294967296<4294967296:=by omega
 rw [hw (x % 4294967296) (by omega) (by omega),hw (y % 4294967296) (by omega) (by omega),hw _ h2 (by omega),hw _ h4 (by omega),hw _ h6 (by omega),hw _ h8 (by omega)]
 rw [hw (x / 4294967296*(y % 4294967296)+x % 4294967296*(y % 4294967296) / 4294967296) (by omega) (by omega)]
 rw [and32 _ ⟨by omega,by omega⟩]
 have t0:0<=(x / 4294967296*(y % 4294967296)+x % 4294967296*(y % 4294967296) / 4294967296) % 4294967296/\(x / 4294967296*(y % 4294967296)+x % 4294967296*(y % 4294967296) / 4294967296) % 4294967296<4294967296:=by omega
 rw [hw ((x / 4294967296*(y % 4294967296)+x % 4294967296*(y % 4294967296) / 4294967296) % 4294967296) (by omega) (by omega)]
 rw [hw ((x / 4294967296*(y % 4294967296)+x % 4294967296*(y % 4294967296) / 4294967296) % 4294967296+x % 4294967296*(y / 4294967296)) (by omega) (by omega)]
 rw [hw (x / 4294967296*(y / 4294967296)+(x / 4294967296*(y % 4294967296)+x % 4294967296*(y % 4294967296) / 4294967296) / 4294967296) (by omega) (by omega)]
 rw [hw _ (by omega) (by omega),h1,Z3S]
theorem Z62 {n:Int} (m:Bool) (h:Z45 n):Z11 n m=fitS (if m then -n else n):=by
 unfold Z45 at h
 unfold Z11 fitS w64
 rw [pickB,pickB,Z3S,Z21,Z21]
 cases m<;>simp only [Bool.true_and,Y07,Bool.not_true,Y0b,decide_eq_true_eq,YF,if_false,if_true]
 ·split
  ·rw [if_pos (by omega)];simp only [Y5,and_true];omega
  ·rw [if_neg (by omega)]
 ·split
  ·rw [if_pos (by omega)];simp only [Y5,and_true];omega
  ·rw [if_neg (by omega)]
theorem safe_Mul_eq {a b:Int} (ha:In64 a) (hb:In64 b):Z1h a b=fitS (a*b):=by
 unfold Z1h
 rw [Z4p ha,Z4p hb,mul64_eq (inU_abs ha) (inU_abs hb),pickB]
 simp only [natAbs_prod]
 rw [Z62 _ (by unfold Z45;omega)]
 by_cases h:((a*b).natAbs:Int) / 18446744073709551616=0
 ·rw [if_neg (by simp [h])]
  have e:((a*b).natAbs:Int) % 18446744073709551616=(a*b).natAbs:=by omega
  rw [e];show fitS _=_;refine congrArg fitS ?_
  by_cases h1:a<0<;>by_cases h2:b<0<;>simp only [h1,h2,decide_true,decide_false]
  ·have:=Int.mul_nonneg_of_nonpos_of_nonpos (Y0d h1) (Y0d h2)
   simp;omega
  ·have:=Int.mul_nonpos_of_nonpos_of_nonneg (Y0d h1) (Int.not_lt.1 h2)
   simp;omega
  ·have:=Int.mul_nonpos_of_nonneg_of_nonpos (Int.not_lt.1 h1) (Y0d h2)
   simp;omega
  ·have:=Int.mul_nonneg (Int.not_lt.1 h1) (Int.not_lt.1 h2)
   simp;omega
 ·rw [if_pos (by simp [h])]
  unfold fitS;rw [if_neg];omega
def Z4I (a b:Int):Int×Int×Int:=if b=0 then (0,0,11) else if b = -1/\a = -9223372036854775808 then (0,0,10) else (a.fdiv b,a.fmod b,0)
theorem floor_up {a b:Int} (hb:b≠0) (h1:a.tmod b≠0) (h2:¬(a.tmod b<0↔b<0)):a.fdiv b=a.tdiv b-1/\a.fmod b=a.tmod b+b:=by
 have q1:=Y03 a hb
 have q2:=Int.emod_lt a hb
 have hd:b∣a↔a % b=0:=Int.dvd_iff_emod_eq_zero
 rw [Int.fdiv_eq_ediv,Int.fmod_eq_emod,Int.tdiv_eq_ediv]
 rw [Int.tmod_eq_emod] at h1 h2 ⊢
 simp only [hd] at h1 h2 ⊢
 rcases Int.lt_or_gt_of_ne hb with h|h
 ·rw [Int.sign_eq_neg_one_of_neg h]
  split at h1<;>split<;>simp_all<;>omega
 ·rw [Int.sign_eq_one_of_pos h]
  split at h1<;>split<;>simp_all<;>omega
theorem floor_same {a b:Int} (hb:b≠0) (h:a.tmod b=0\/(a.tmod b<0↔b<0)):a.fdiv b=a.tdiv b/\a.fmod b=a.tmod b:=by
 have q1:=Y03 a hb
 have q2:=Int.emod_lt a hb
 have hd:b∣a↔a % b=0:=Int.dvd_iff_emod_eq_zero
 rw [Int.fdiv_eq_ediv,Int.fmod_eq_emod,Int.tdiv_eq_ediv]
 rw [Int.tmod_eq_emod] at h ⊢
 simp only [hd] at h ⊢
 rcases Int.lt_or_gt_of_ne hb with hh|hh
 ·rw [Int.sign_eq_neg_one_of_neg hh]
  split at h<;>split<;>simp_all<;>omega
 ·rw [Int.sign_eq_one_of_pos hh]
  split at h<;>split<;>simp_all<;>omega
theorem tdiv_in {a b:Int} (ha:In64 a) (hb:b≠0) (hn:¬(b = -1/\a = -9223372036854775808)):In64 (a.tdiv b):=by
 have h:(a.tdiv b).natAbs=a.natAbs / b.natAbs:=Int.natAbs_tdiv a b
 obtain ⟨h1,h2⟩:=ha
 by_cases hb1:b=1
 ·subst hb1;rw [Int.tdiv_one];exact ⟨h1,h2⟩
 ·by_cases hb2:b = -1
  ·have ha':a ≠ -9223372036854775808:=λe=>hn ⟨hb2,e⟩;have:a.natAbs / b.natAbs<=a.natAbs:=Nat.div_le_self _ _;unfold In64;omega
  ·have h3:a.natAbs / b.natAbs<=a.natAbs / 2:=Nat.div_le_div_left (by omega) (by omega)
   unfold In64;omega
theorem tdiv_in1 {a b:Int} (ha:In64 a) (hb:b≠0) (h1:a.tmod b≠0):In64 (a.tdiv b-1):=by
 have h:(a.tdiv b).natAbs=a.natAbs / b.natAbs:=Int.natAbs_tdiv a b
 obtain ⟨h2,h3⟩:=ha
 by_cases hb1:b=1
 ·subst hb1;simp at h1
 ·by_cases hb2:b = -1
  ·subst hb2;simp at h1
  ·have h3:a.natAbs / b.natAbs<=a.natAbs / 2:=Nat.div_le_div_left (by omega) (by omega)
   unfold In64;omega
theorem wrap_in {a:Int} (h:In64 a):IntKind.i64.wrap a=a:=by rw [Z21];unfold In64 at h;omega
theorem fmod_in {a b:Int} (hb:In64 b) (hb0:b≠0):In64 (a.fmod b):=by
 have q1:=Y03 a hb0
 have q2:=Int.emod_lt a hb0
 rw [Int.fmod_eq_emod]
 unfold In64 at *
 split<;>omega
theorem floor_leaf1 {a b:Int} (ha:In64 a) (hb:In64 b) (h0:b≠0) (hn:¬(b = -1/\a = -9223372036854775808)) (h1:a.tmod b≠0) (h2:¬(a.tmod b<0↔b<0)) :
  (IntKind.i64.wrap (IntKind.i64.wrap (a.tdiv b)-1),IntKind.i64.wrap (a.tmod b+b),(0:Int))=Z4I a b:=by
 obtain ⟨e1,e2⟩:=floor_up h0 h1 h2
 rw [Z4I,if_neg h0,if_neg hn,e1,e2,wrap_in (tdiv_in ha h0 hn),wrap_in (tdiv_in1 ha h0 h1),wrap_in (by rw [<- e2];exact fmod_in hb h0)]
theorem floor_leaf2 {a b:Int} (ha:In64 a) (hb:In64 b) (h0:b≠0) (hn:¬(b = -1/\a = -9223372036854775808)) (h:a.tmod b=0\/(a.tmod b<0↔b<0)) :
  (IntKind.i64.wrap (a.tdiv b),a.tmod b,(0:Int))=Z4I a b:=by
 obtain ⟨e1,e2⟩:=floor_same h0 h
 rw [Z4I,if_neg h0,if_neg hn,e1,e2,wrap_in (tdiv_in ha h0 hn)]
theorem safe_Floor_eq {a b:Int} (ha:In64 a) (hb:In64 b):Z24 a b=some (Z4I a b):=by
 unfold Z24
 by_cases h0:b=0
 ·subst h0;rfl
 rw [beq_f h0,cond_false]
 by_cases hn:b = -1/\a = -9223372036854775808
 ·obtain ⟨rfl,rfl⟩:=hn
  rfl
 have:(b == -1&&a == -9223372036854775808)=false:=by
  simp only [Bool.and_eq_false_iff,beq_eq_false_iff_ne]
  by_cases h:b = -1
  ·exact .inr λe=>hn ⟨h,e⟩
  ·exact .inl h
 rw [this,cond_false,nz?_ok h0]
 simp only [Y4,pickB,YD,bne_iff_ne,ne_eq,decide_eq_decide]
 split
 ·rename_i h;simp only [Y4];exact congrArg some (floor_leaf1 ha hb h0 hn h.1 h.2)
 ·rename_i h;simp only [Y4];refine congrArg some (floor_leaf2 ha hb h0 hn ?_)
  by_cases h1:a.tmod b=0
  ·exact .inl h1
  ·exact .inr (Classical.byContradiction λh2=>h ⟨h1,h2⟩)
theorem Z3d {a b:Int} (hb:0<b):a.fdiv b=a / b/\a.fmod b=a % b:=⟨Y0S a (Y0d hb),Int.fmod_eq_emod_of_nonneg a (Y0d hb)⟩
theorem floorS_pos {a b:Int} (hb:0<b):Z4I a b=(a / b,a % b,0):=by
 unfold Z4I
 rw [if_neg (by omega),if_neg (by omega),(Z3d hb).1,(Z3d hb).2]
end Go.Dn

namespace Go.Dn
open Go
theorem reach_eq:reachBytes=140737488351232:=rfl
def ZY (t:Int):Prop:=-1099511627776<=t/\t<=1099511627776
instance (t:Int):Decidable (ZY t):=by unfold ZY;infer_instance
theorem Z3t (t:Int):Z0X t=decide (ZY t):=by
 rw [Bool.eq_iff_iff,decide_eq_true_iff];simp [Z0X,ZY]
theorem inRange_eq (t:Int):Z15 t=decide (ZY t):=by
 rw [Bool.eq_iff_iff,decide_eq_true_iff];simp [Z15,ZY]
theorem tick64 {t:Int} (h:ZY t):In64 t:=by unfold ZY at h;unfold In64;omega
structure RightL (l:List Span):Prop where
 ok:∀ (k:Nat) (s:Span),l[k]? = some s->ZY s.From/\ZY s.To/\s.From<=s.To
 gap:∀ (k:Nat) (s t:Span),l[k]? = some s->l[k+1]? = some t->s.To+2<=t.From
abbrev Len (l:List Span):Prop:=l.length*16<=reachBytes
abbrev Sp64 (l:List Span):Prop:=∀ s∈l,In64 s.From/\In64 s.To
theorem Span.ok64 {s:Span} (h:s.ok):In64 s.From/\In64 s.To:=h
theorem okSpans {l:List Span} (h:okL 16 Span.ok l):Len l/\Sp64 l:=⟨h.1,λs hs=>Span.ok64 (h.2 s hs)⟩
theorem RightL.sp64 {l:List Span} (h:RightL l):Sp64 l:=λs hs=>by
 obtain ⟨k,hk⟩:=Yc hs
 have:=h.ok k s hk
 exact ⟨tick64 this.1,tick64 this.2.1⟩
def goodSpan (l:List Span) (k:Nat) (s:Span):Prop:=ZY s.From/\ZY s.To/\s.From<=s.To/\∀ p,k≠0->l[k-1]? = some p->p.To+2<=s.From
def Z0u (by_:Int) (s:Span):Span:=⟨s.From+by_,s.To+by_⟩
theorem Z3y {l:List Span} {b:Int} (hl:Len l) (h64:Sp64 l) (hb:In64 b) :
  ((∀ s∈l,ZY (s.From+b)/\ZY (s.To+b))/\Zn l b=some (l.map (Z0u b),0))\/((¬ ∀ s∈l,ZY (s.From+b)/\ZY (s.To+b))/\Zn l b=some ([],20)):=by
 have hlen:(l.length:Int)<9223372036854775807:=by have:=reach_eq;unfold Len at hl;omega
 have step:∀ (k:Nat) (s:Span) (acc:List Span),l[k]? = some s->acc.length=k->Zn.s0 l b ((k:Int),acc)=if ZY (s.From+b)/\ZY (s.To+b) then some (.inl ((k:Int)+1,acc++[Z0u b s])) else some (.inr (.ret ([],20))):=by
  intro k s acc hk hacc;have hlt:=(List.getElem?_eq_some_iff.1 hk).1;have hat:at? l (k:Int)=some s:=by rw [at?_nat hlt];rw [YB hlt] at hk;exact hk
  obtain ⟨f64,t64⟩:=h64 s (YH hk);unfold Zn.s0;rw [Z0d (show (k:Int)<l.length by omega),cond_true,hat]
  simp only [Y4];rw [Z5i f64 hb,Z5i t64 hb,Z3t,Z3t];have hk1:w64 ((k:Int)+1)=k+1:=ZN (by omega)
  have happ:∀ x:Span,app? 16 acc [x]=some (acc++[x]):=λx=>app?_ok (by
   have:=reach_eq;have:=room_eq;unfold Len at hl;simp;omega)
  rcases fit_or (s.From+b) with ⟨q1,q2⟩|⟨q1,q2⟩<;>rcases fit_or (s.To+b) with ⟨q3,q4⟩|⟨q3,q4⟩<;>rw [q2,q4]
  ·by_cases h:ZY (s.From+b)/\ZY (s.To+b)
   ·rw [if_pos h,Z0d h.1,Z0d h.2];simp [happ,hk1,Z0u]
   ·rw [if_neg h];have:(!decide (ZY (s.From+b)) || !decide (ZY (s.To+b)))=true:=by
     by_cases h1:ZY (s.From+b)
     ·rw [Z0R (λh2=>h ⟨h1,h2⟩)];simp
     ·rw [Z0R h1];simp
    simp only [bne_self_eq_false,Bool.false_or,Bool.or_assoc] at this ⊢;rw [this];rfl
  ·rw [if_neg (λh=>q3 (tick64 h.2))];rfl
  ·rw [if_neg (λh=>q1 (tick64 h.1))];rfl
  ·rw [if_neg (λh=>q1 (tick64 h.1))];rfl
 have hend:∀ acc,Zn.s0 l b ((l.length:Int),acc)=some (.inr (.go acc)):=λacc=>by unfold Zn.s0;rw [Z0R (by omega)];rfl
 unfold Zn
 by_cases hall:∀ s∈l,ZY (s.From+b)/\ZY (s.To+b)
 ·refine .inl ⟨hall,?_⟩;have:loopO (Zn.s0 l b) (0,[])=some (.go (l.map (Z0u b))):=by
   refine Z1L (I:=λ(s:Int×List Span) r=>r = .go (l.map (Z0u b))/\∃ k:Nat,k<=l.length/\s=((k:Int),(l.take k).map (Z0u b))) (λs=>l.length-s.1.toNat) ?_ ⟨rfl,0,Y0I _,by simp⟩
   rintro s r ⟨rfl,k,hk,rfl⟩
   by_cases hlt:k<l.length
   ·refine .inl ⟨_,by rw [step k l[k] _ (YB hlt) (by simp;omega),if_pos (hall _ (Y0F hlt))],⟨rfl,k+1,hlt,?_⟩,by simp;omega⟩
    rw [List.take_succ_eq_append_getElem hlt,Y09];push_cast;rfl
   ·have:k=l.length:=by omega
    subst this;rw [List.take_length];exact .inr (hend _)
  rw [this];rfl
 ·refine .inr ⟨hall,?_⟩;obtain ⟨k0,s0,hk0,hb0,hg⟩:=first_bad (l:=l) (good:=λ_ s=>ZY (s.From+b)/\ZY (s.To+b)) (λh=>hall λs hs=>by
   obtain ⟨k,hk⟩:=Yc hs;exact h k s hk)
  have hlt0:=(List.getElem?_eq_some_iff.1 hk0).1;have:loopO (Zn.s0 l b) (0,[])=some (.ret ([],20)):=by
   refine Z1L (I:=λ(s:Int×List Span) r=>r = .ret ([],20)/\∃ k:Nat,k<=k0/\s.1=(k:Int)/\s.2.length=k) (λs=>l.length-s.1.toNat) ?_ ⟨rfl,0,Y0I _,rfl,rfl⟩;rintro ⟨i,acc⟩ r ⟨rfl,k,hk,h1,h2⟩;simp only at h1 h2;subst h1
   by_cases hlt:k<k0
   ·have hkl:k<l.length:=by omega
    exact .inl ⟨_,by rw [step k l[k] _ (YB hkl) h2,if_pos (hg k _ hlt (YB hkl))],⟨rfl,k+1,hlt,by push_cast;rfl,by simp;omega⟩,by simp;omega⟩
   ·have:k=k0:=by omega
    subst this;exact .inr (by rw [step k s0 _ hk0 h2,if_neg hb0])
  rw [this];rfl
theorem RightL.shift {l:List Span} {b:Int} (h:RightL l) (ht:∀ s∈l,ZY (s.From+b)/\ZY (s.To+b)):RightL (l.map (Z0u b)):=by
 constructor
 ·intro k s hk;rw [YP,Y3] at hk;obtain ⟨s,hk,rfl⟩:=hk;have h1:=h.ok k s hk;have h2:=ht s (YH hk);exact ⟨h2.1,h2.2,by simp only [Z0u];omega⟩
 ·intro k s t hk hk1;rw [YP,Y3] at hk hk1;obtain ⟨s,hk,rfl⟩:=hk;obtain ⟨t,hk1,rfl⟩:=hk1;have:=h.gap k s t hk hk1;simp only [Z0u];omega
def AheadL (a b:List Span):Prop:=∀ x,a.getLast? = some x->∀ y,b.head? = some y->x.To<y.From
end Go.Dn

namespace Go.Dn
open Go
theorem Z6C (x y:Int):Z0Z x y=if x<y then -1 else if y<x then 1 else 0:=by
 unfold Z0Z Z0b
 simp only [bne_self_eq_false,cond_false,pickB,decide_eq_true_eq,gt_iff_lt,YF,if_false]
def Inc (l:List Granule):Prop:=∀ (j k:Nat) (a b:Granule),j<k->l[j]? = some a->l[k]? = some b->a.Index<b.Index
theorem bsearch_eq {l:List Granule} {t:Int} (hl:l.length*32<=reachBytes) (hs:Inc l):∃ p:Nat,p<=l.length/\(∀ (k:Nat) (g:Granule),l[k]? = some g->(k<p↔g.Index<t)) /\
  Z2 l t (λz0 z1=>some (Z1Q z0 z1))=some ((p:Int),decide (∃ g,l[p]? = some g/\g.Index=t)):=by
 have hlen:(l.length:Int)<4398046511104*4:=by have:=reach_eq;omega
 have hcmp:∀ g i,Z1Q g i=if g.Index<i then -1 else if i<g.Index then 1 else 0:=λg i=>Z6C _ _
 obtain ⟨r,h1,p,rfl,hp,hlow,hhigh⟩:=Z5N (step:=Z2.s0 l t (λz0 z1=>some (Z1Q z0 z1)))
  (I:=λs=>∃ i j:Nat,s=((i:Int),(j:Int))/\i<=j/\j<=l.length/\(∀ k g,l[k]? = some g->k<i->g.Index<t)/\(∀ k g,l[k]? = some g->j<=k->t<=g.Index))
  (λs=>(s.2-s.1).toNat)
  (λr=>∃ p:Nat,r=(p:Int)/\p<=l.length/\(∀ k g,l[k]? = some g->k<p->g.Index<t)/\(∀ k g,l[k]? = some g->p<=k->t<=g.Index)) (by
  rintro s ⟨i,j,rfl,hij,hj,hlow,hhigh⟩;unfold Z2.s0
  by_cases hlt:i<j
  ·have hm:w64 ((IntKind.u64.wrap (w64 ((i:Int)+j))).fdiv (2 ^ 1))=((i+j) / 2:Nat):=by
    rw [ZN (x:=(i:Int)+j) (by omega),Z3S,Y0S _ (by decide),ZN (by omega)]
    omega
   have hml:(i+j) / 2<l.length:=by omega
   simp only [hm];rw [Z0d (show (i:Int)<j by omega),cond_true,at?_nat hml]
   simp only [Y4,hcmp];refine .inl ?_;have hget:=YB hml
   by_cases hc:l[(i+j) / 2].Index<t
   ·rw [if_pos hc];refine ⟨((((i+j) / 2+1:Nat):Int),(j:Int)),?_,⟨(i+j) / 2+1,j,rfl,by omega,hj,λk g hk hki=>?_,hhigh⟩,by simp;omega⟩
    ·rw [ZN (by omega)];simp
    ·rcases YT k ((i+j) / 2) with h|h
     ·have:=hs k _ g _ h hk hget;omega
     ·have:k=(i+j) / 2:=by omega
      subst this;rw [hget] at hk;cases hk;exact hc
   ·rw [if_neg hc];refine ⟨((i:Int),(((i+j) / 2:Nat):Int)),?_,⟨i,(i+j) / 2,rfl,by omega,by omega,hlow,λk g hk hki=>?_⟩,by simp;omega⟩
    ·split<;>simp
    ·rcases YT ((i+j) / 2) k with h|h
     ·have:=hs _ k _ g h hget hk;omega
     ·have:k=(i+j) / 2:=by omega
      subst this;rw [hget] at hk;cases hk;omega
  ·refine .inr ⟨(i:Int),by rw [Z0R (show ¬ (i:Int)<j by omega)];rfl,i,rfl,by omega,hlow,λk g hk hki=>hhigh k g hk (by omega)⟩) (0,(l.length:Int)) ⟨0,l.length,rfl,Y0I _,YG _,λk g _ h=>by omega,λk g hk h=>by
    rw [Yp h] at hk;cases hk⟩
 refine ⟨p,hp,λk g hk=>⟨λh=>hlow k g hk h,λh=>?_⟩,?_⟩
 ·rcases YT k p with h2|h2
  ·exact h2
  ·have:=hhigh k g hk h2;omega
 ·unfold Z2;rw [h1];simp only [Y4]
  by_cases hlt:p<l.length
  ·rw [Z0d (show (p:Int)<l.length by omega),cond_true,at?_nat hlt]
   simp only [Y4,hcmp,YA,Y5,true_and];have:=hhigh p _ (YB hlt) (YG _);rw [YB hlt]
   by_cases he:l[p].Index=t
   ·rw [if_neg (by omega),if_neg (by omega)];simp [he]
   ·rw [if_neg (by omega),if_pos (by omega)];simp [he]
  ·rw [Z0R (show ¬ (p:Int)<l.length by omega),cond_false]
   simp only [Y4,YA,Y5,true_and];rw [Yp (by omega)]
   simp
structure Shape (f:Form):Prop where
 count:f.Count=f.Core.length
 zero:f.Count=0↔f.Period=0
 per:0<=f.Period/\f.Period<=1099511627776
 core:∀ l∈f.Core,RightL l
 odd:∀ g∈f.Odd,RightL g.Ticks/\ZY g.Index
 inc:Inc f.Odd
structure Lim (f:Form):Prop where
 core:f.Core.length*24<=reachBytes
 sets:∀ l∈f.Core,Len l/\Sp64 l
 odd:f.Odd.length*32<=reachBytes
 ticks:∀ g∈f.Odd,In64 g.Index/\Len g.Ticks/\Sp64 g.Ticks
 count:In64 f.Count
 period:In64 f.Period
theorem Form.lim {f:Form} (h:f.ok):Lim f:=by
 obtain ⟨h1,h2,h3,h4⟩:=h
 exact ⟨h3.1,λl hl=>okSpans (h3.2 l hl),h4.1,λg hg=>⟨(h4.2 g hg).1,okSpans (h4.2 g hg).2⟩,h2,h1⟩
theorem Z5f {f:Form} (hl:Lim f) (hs:Inc f.Odd) (i:Int):∃ p:Nat,p<=f.Odd.length/\(∀ (k:Nat) (g:Granule),f.Odd[k]? = some g->(k<p↔g.Index<i))/\Z3V f i=some ((p:Int),decide (∃ g,f.Odd[p]? = some g/\g.Index=i)):=by
 obtain ⟨p,h1,h2,h3⟩:=bsearch_eq (t:=i) hl.odd hs
 exact ⟨p,h1,h2,by unfold Z3V;rw [h3];rfl⟩
def isOdd (f:Form) (i:Int):Prop:=∃ g∈f.Odd,g.Index=i
def Z23 (f:Form) (i:Int):List Span:=f.Core.getD (i % f.Count).toNat []
def Z44 (f:Form) (i:Int):Int:=i / f.Count*f.Period
open Classical in
noncomputable def Z0A (f:Form) (i:Int):List Span:=if h:isOdd f i then h.choose.Ticks else if f.Count=0 then [] else (Z23 f i).map (Z0u (Z44 f i))
theorem Inc.uniq {l:List Granule} (h:Inc l) {a b:Granule} (ha:a∈l) (hb:b∈l) (he:a.Index=b.Index):a=b:=by
 obtain ⟨j,hj⟩:=Yc ha
 obtain ⟨k,hk⟩:=Yc hb
 rcases Nat.lt_trichotomy j k with hjk|rfl|hjk
 ·have:=h j k a b hjk hj hk;omega
 ·rw [hj] at hk;cases hk;rfl
 ·have:=h k j b a hjk hk hj;omega
theorem setAt_odd {f:Form} (hs:Inc f.Odd) {g:Granule} (hg:g∈f.Odd):Z0A f g.Index=g.Ticks:=by
 have h:isOdd f g.Index:=⟨g,hg,rfl⟩
 unfold Z0A
 rw [dif_pos h]
 rw [hs.uniq h.choose_spec.1 hg h.choose_spec.2]
theorem Z66 {f:Form} {i:Int} (h:¬ isOdd f i) (h0:f.Count=0):Z0A f i=[]:=by unfold Z0A;rw [dif_neg h,if_pos h0]
theorem Z2l {f:Form} {i:Int} (h:¬ isOdd f i) (h0:f.Count≠0):Z0A f i=(Z23 f i).map (Z0u (Z44 f i)):=by unfold Z0A;rw [dif_neg h,if_neg h0]
theorem core_pos {f:Form} (hs:Shape f) (h0:f.Count≠0):0<f.Count:=by have:=hs.count;omega
theorem Z6H {f:Form} (hs:Shape f) (h0:f.Count≠0) (i:Int):at? f.Core (i % f.Count)=some (Z23 f i)/\Z23 f i∈f.Core:=by
 have hp:=core_pos hs h0
 have h1:=Y03 i h0
 have h2:=Y0Z i hp
 have h3:(i % f.Count).toNat<f.Core.length:=by have:=hs.count;omega
 unfold Z23
 rw [at?_lt h1 (by have:=hs.count;omega),Yx,YB h3]
 exact ⟨rfl,Y0F h3⟩
theorem gran_kept_odd {f:Form} (hl:Lim f) (hs:Shape f) {g:Granule} (hg:g∈f.Odd):Z1S f g.Index=some (g.Ticks,0,0):=by
 obtain ⟨p,h1,h2,h3⟩:=Z5f hl hs.inc g.Index
 obtain ⟨k,hk⟩:=Yc hg
 have hkl:=(List.getElem?_eq_some_iff.1 hk).1
 have hpk:p<=k:=by
  rcases YT k p with h|h
  ·have:=(h2 k g hk).1 h;omega
  ·exact h
 have hpl:p<f.Odd.length:=by omega
 have hpg:=h2 p _ (YB hpl)
 have:p=k:=by
  rcases YT p k with h|h
  ·have:=hs.inc p k _ g h (YB hpl) hk;exact absurd (hpg.2 this) (Nat.lt_irrefl _)
  ·omega
 subst this
 unfold Z1S
 rw [h3]
 simp only [Y4]
 rw [Z0d ⟨g,hk,rfl⟩,cond_true,at?_nat hpl]
 rw [YB hpl] at hk
 cases hk;rfl
theorem Z6E {f:Form} (hl:Lim f) (hs:Shape f) {i:Int} (hi:In64 i) (ho:¬ isOdd f i):Z1S f i=if f.Count=0 then some ([],0,0) else some (Z23 f i,(fitS (Z44 f i)).1,(fitS (Z44 f i)).2):=by
 obtain ⟨p,h1,h2,h3⟩:=Z5f hl hs.inc i
 unfold Z1S
 rw [h3]
 simp only [Y4]
 rw [Z0R (by rintro ⟨g,hg,he⟩;exact ho ⟨g,YH hg,he⟩),cond_false]
 by_cases h0:f.Count=0
 ·rw [beq_t h0,cond_true,if_pos h0]
 ·rw [beq_f h0,cond_false,if_neg h0,safe_Floor_eq hi hl.count,floorS_pos (core_pos hs h0)];simp only [Y4];rw [(Z6H hs h0 i).1];simp only [Y4];have hq:In64 (i / f.Count):=by
   have hp:=core_pos hs h0;unfold In64 at hi ⊢
   constructor
   ·have : -9223372036854775808<=i / f.Count:=by
     rw [Int.le_ediv_iff_mul_le hp];have:(-9223372036854775808)*f.Count<=-9223372036854775808:=by
      have:(-9223372036854775808)*f.Count<=(-9223372036854775808)*1:=Int.mul_le_mul_of_nonpos_left (by omega) (by omega)
      omega
     omega
    exact this
   ·have:i / f.Count<=9223372036854775807:=by
     rcases Int.lt_or_le i 0 with h|h
     ·have:i / f.Count<0:=Int.ediv_neg_of_neg_of_pos h hp;omega
     ·have:=Int.ediv_le_self f.Count h;omega
    exact this
  rw [safe_Mul_eq hq hl.period]
  rfl
def fits (f:Form) (i:Int):Prop:=∀ s∈Z0A f i,ZY s.From/\ZY s.To
theorem shift0 (l:List Span):l.map (Z0u 0)=l:=by
 have:Z0u 0=id:=by funext s;simp [Z0u]
 rw [this,List.map_id]
theorem Z3D {f:Form} {i:Int} (ho:¬ isOdd f i) (h0:f.Count≠0):Z0A f i=[]↔Z23 f i=[]:=by rw [Z2l ho h0,List.map_eq_nil_iff]
open Classical in
theorem gran_Get_eq {f:Form} (hl:Lim f) (hs:Shape f) {i:Int} (hi:In64 i):Z19 f i=some (if ZY i/\fits f i then (Z0A f i,0) else ([],20)):=by
 unfold Z19
 rw [inRange_eq]
 by_cases ht:ZY i
 ·rw [Z0d ht,Bool.not_true,cond_false]
  by_cases ho:isOdd f i
  ·obtain ⟨g,hg,rfl⟩:=ho;have hset:=setAt_odd hs.inc hg;have hr:=(hs.odd g hg).1;have hf:fits f g.Index:=by
    intro s hsm;rw [hset] at hsm;obtain ⟨k,hk⟩:=Yc hsm;exact ⟨(hr.ok k s hk).1,(hr.ok k s hk).2.1⟩
   rw [gran_kept_odd hl hs hg,if_pos ⟨ht,hf⟩,hset];simp only [Y4]
   by_cases hn:g.Ticks=[]
   ·rw [hn];rfl
   ·have:((g.Ticks.length:Int)==0)=false:=beq_f (by have:=List.length_pos_iff.2 hn;omega)
    rw [this,cond_false];simp only [bne_self_eq_false,cond_false];rcases Z3y (b:=0) (hl.ticks g hg).2.1 hr.sp64 ⟨by decide,by decide⟩ with ⟨_,h2⟩|⟨h1,_⟩
    ·rw [h2,shift0];rfl
    ·refine absurd (λs hsm=>?_) h1;rw [<- hset] at hsm
     simpa using hf s hsm
  ·rw [Z6E hl hs hi ho]
   by_cases h0:f.Count=0
   ·rw [if_pos h0,if_pos ⟨ht,by intro s hsm;rw [Z66 ho h0] at hsm;cases hsm⟩,Z66 ho h0];rfl
   ·rw [if_neg h0];simp only [Y4]
    by_cases hn:Z23 f i=[]
    ·rw [if_pos ⟨ht,by intro s hsm;rw [(Z3D ho h0).2 hn] at hsm;cases hsm⟩,(Z3D ho h0).2 hn,hn];rfl
    ·have:(((Z23 f i).length:Int)==0)=false:=beq_f (by have:=List.length_pos_iff.2 hn;omega)
     rw [this,cond_false];have hmem:=(Z6H hs h0 i).2;have hr:=hs.core _ hmem;have hfe:fits f i ↔ ∀ s∈Z23 f i,ZY (s.From+Z44 f i)/\ZY (s.To+Z44 f i):=by
      unfold fits;rw [Z2l ho h0]
      constructor
      ·intro h s hsm;exact h (Z0u (Z44 f i) s) (List.mem_map.2 ⟨s,hsm,rfl⟩)
      ·intro h s hsm;obtain ⟨s,hsm',rfl⟩:=List.mem_map.1 hsm;exact h s hsm'
     rcases fit_or (Z44 f i) with ⟨q1,q2⟩|⟨q1,q2⟩<;>rw [q2]
     ·simp only [bne_self_eq_false,cond_false];rcases Z3y (b:=Z44 f i) (hl.sets _ hmem).1 hr.sp64 q1 with ⟨h1,h2⟩|⟨h1,h2⟩
      ·rw [h2,if_pos ⟨ht,hfe.2 h1⟩,Z2l ho h0];rfl
      ·rw [h2,if_neg (λh=>h1 (hfe.1 h.2))];rfl
     ·rw [if_neg]
      ·rfl
      ·rintro ⟨_,h⟩;have h:=hfe.1 h;obtain ⟨s,hsm⟩:=List.exists_mem_of_ne_nil _ hn;have h1:=(h s hsm).1;obtain ⟨k,hk⟩:=Yc hsm;have h2:=(hr.ok k s hk).1;unfold ZY at h1 h2;exact q1 (by unfold In64;omega)
 ·rw [Z0R ht,if_neg (λh=>ht h.1)];rfl
end Go.Dn

namespace Go.Dn
open Go
def goodOdd (f:Form) (k:Nat) (g:Granule):Prop:=RightL g.Ticks/\ZY g.Index/\∀ p,k≠0->f.Odd[k-1]? = some p->p.Index<g.Index
def fstT (l:List Span):Int:=(l.head?.map Span.From).getD 0
def lstT (l:List Span):Int:=(l.getLast?.map Span.To).getD 0
def full (f:Form):List (List Span):=f.Core.filter (λl=>decide (l.length>0))
def Turns (f:Form):Prop:=(∀ (k:Nat) (a b:List Span),(full f)[k]? = some a->(full f)[k+1]? = some b->lstT a<fstT b)/\∀ a b,(full f).getLast? = some a->(full f).head? = some b->lstT a<fstT b+f.Period
end Go.Dn

namespace Go.Dn
open Go
def Bare (f:Form):Prop:=∀ l∈f.Core,l=[]
def UpTo (f:Form) (i:Int) (r:Int×Bool):Prop:=(r.2=true/\i<=r.1/\ZY r.1/\Z0A f r.1≠[]/\∀ k,i<=k->k<r.1->Z0A f k=[])\/(r.2=false/\r.1=0/\∀ k,i<=k->ZY k->Z0A f k=[])
def DownTo (f:Form) (i:Int) (r:Int×Bool):Prop:=(r.2=true/\r.1<=i/\ZY r.1/\Z0A f r.1≠[]/\∀ k,k<=i->r.1<k->Z0A f k=[])\/(r.2=false/\r.1=0/\∀ k,k<=i->ZY k->Z0A f k=[])
def Above (f:Form) (i:Int) (r:Int×Bool):Prop:=(r.2=true/\i<r.1/\ZY r.1/\Z0A f r.1≠[]/\∀ k,i<k->k<r.1->ZY k->Z0A f k=[])\/(r.2=false/\r.1=0/\∀ k,i<k->ZY k->Z0A f k=[])
def Under (f:Form) (i:Int) (r:Int×Bool):Prop:=(r.2=true/\r.1<i/\ZY r.1/\Z0A f r.1≠[]/\∀ k,k<i->r.1<k->ZY k->Z0A f k=[])\/(r.2=false/\r.1=0/\∀ k,k<i->ZY k->Z0A f k=[])
end Go.Dn

namespace Go.Dn
open Go
def BesideR (f:Form) (i:Int) (lo hi:Int×Bool):Prop :=
 fits f i/\(lo.2=true->fits f lo.1/\AheadL (Z0A f lo.1) (Z0A f i))/\(hi.2=true->fits f hi.1/\AheadL (Z0A f i) (Z0A f hi.1))/\(lo.2=true->hi.2=true->AheadL (Z0A f lo.1) (Z0A f hi.1))
noncomputable def sideG (f:Form) (r:Int×Bool):Option (Jx (List Span) Bool) :=
 (bif r.2 then (Z19 f r.1).bind λx=>(bif (x.2 != 0) then some (.ret false) else some (.go x.1)) else some (.go []))
def Beside (f:Form) (i:Int):Prop:=∀ lo hi,Under f i lo->Above f i hi->BesideR f i lo hi
theorem Under.uniq {f:Form} {i:Int} {r r':Int×Bool} (h:Under f i r) (h':Under f i r'):r=r':=by
 obtain ⟨a,b⟩:=r
 obtain ⟨a',b'⟩:=r'
 rcases h with ⟨rfl,h1,h2,h3,h4⟩|⟨rfl,rfl,h4⟩<;>rcases h' with ⟨rfl,k1,k2,k3,k4⟩|⟨rfl,rfl,k4⟩
 ·simp only at *
  rcases Int.lt_trichotomy a a' with h|h|h
  ·exact absurd (h4 a' k1 h k2) k3
  ·rw [h]
  ·exact absurd (k4 a h1 h h2) h3
 ·exact absurd (k4 a h1 h2) h3
 ·exact absurd (h4 a' k1 k2) k3
 ·rfl
theorem Above.uniq {f:Form} {i:Int} {r r':Int×Bool} (h:Above f i r) (h':Above f i r'):r=r':=by
 obtain ⟨a,b⟩:=r
 obtain ⟨a',b'⟩:=r'
 rcases h with ⟨rfl,h1,h2,h3,h4⟩|⟨rfl,rfl,h4⟩<;>rcases h' with ⟨rfl,k1,k2,k3,k4⟩|⟨rfl,rfl,k4⟩
 ·simp only at *
  rcases Int.lt_trichotomy a a' with h|h|h
  ·exact absurd (k4 a h1 h h2) h3
  ·rw [h]
  ·exact absurd (h4 a' k1 h k2) k3
 ·exact absurd (k4 a h1 h2) h3
 ·exact absurd (h4 a' k1 k2) k3
 ·rfl
def sizeF (f:Form):Nat:=(f.Core.map List.length).sum+(f.Odd.map (·.Ticks.length)).sum
structure RightF (f:Form):Prop where
 shape:Shape f
 turns:Turns f
 beside:∀ g∈f.Odd,Beside f g.Index
def LongF (f:Form):Prop:=6000<f.Core.length\/6000<f.Odd.length\/60000<sizeF f
def SmallF (f:Form):Prop:=f.Core.length<=12/\f.Odd.length<=8/\sizeF f<=60
end Go.Dn

namespace Go.Dn
open Go
theorem year_len (y:Int):Bg (y+1)=Bg y+Up y 12:=by
 unfold Bg Up Lp
 rw [show y+1-1=y by omega,show Z1E.getD 12 0=365 from rfl,show decide (2<=12)=true from rfl,Bool.true_and]
 by_cases h4:y % 4=0
 ·by_cases h1:y % 100=0
  ·by_cases h:y % 400=0
   ·rw [Z0d h4,Z0R (show ¬ y % 100≠0 by omega),Z0d h]
    simp only [Bool.or_true,Bool.and_true,cond_true];omega
   ·rw [Z0d h4,Z0R (show ¬ y % 100≠0 by omega),Z0R h]
    simp only [Bool.or_false,Bool.and_false,cond_false];omega
  ·rw [Z0d h4,Z0d (show y % 100≠0 from h1)];simp only [Bool.true_or,Bool.and_true,cond_true];omega
 ·rw [Z0R h4];simp only [Y07,cond_false];omega
theorem Up_zero (y:Int):Up y 0=0:=by unfold Up;rfl
theorem Dy_succ (m:Int):Dy (m+1)=Bg (1970+m / 12)+Up (1970+m / 12) ((m % 12).toNat+1):=by
 unfold Dy
 by_cases h:m % 12=11
 ·rw [show (m+1) / 12=m / 12+1 by omega,show (m+1) % 12=0 by omega,show (m % 12).toNat+1=12 by omega,show 1970+(m / 12+1)=(1970+m / 12)+1 by omega,year_len,show (0:Int).toNat=0 from rfl,Up_zero]
  omega
 ·rw [show (m+1) / 12=m / 12 by omega,show ((m+1) % 12).toNat=(m % 12).toNat+1 by omega]
theorem Dy_lt (m:Int):Dy m+1<=Dy (m+1):=by
 rw [Dy_succ]
 have:=Up_pos (1970+m / 12) (m % 12).toNat (by omega)
 unfold Dy
 omega
theorem Dy_le_add (m:Int) (k:Nat):Dy m+k<=Dy (m+k):=by
 induction k with
 | zero=>simp
 | succ k ih=>
  have:=Dy_lt (m+k);rw [show m+((k+1:Nat):Int)=m+k+1 by omega]
  omega
theorem Z4e {a b:Int} (h:a<=b):Dy a+(b-a)<=Dy b:=by
 have:=Dy_le_add a (b-a).toNat
 rw [show a+((b-a).toNat:Int)=b by omega] at this
 omega
theorem Lp_turn (y:Int) (t:Int):Lp (y+400*t)=Lp y:=by
 unfold Lp
 rw [show (y+400*t) % 4=y % 4 by omega,show (y+400*t) % 100=y % 100 by omega,show (y+400*t) % 400=y % 400 by omega]
theorem Dy_turn (m:Int):Dy (m+4800)=Dy m+146097:=by
 unfold Dy Up
 rw [show (m+4800) / 12=m / 12+400 by omega,show (m+4800) % 12=m % 12 by omega,show 1970+(m / 12+400)=(1970+m / 12)+400*1 by omega,Lp_turn]
 unfold Bg
 omega
theorem Dy_far {m b:Int} (h0 : -b<=m) (h1:m<=b) (hb:0<=b) : -(31*b+1000)<=Dy m/\Dy m<=31*b+1000:=by
 have:=Up_bd (1970+m / 12) (k:=(m % 12).toNat) (by omega)
 unfold Dy Bg
 omega
structure Gr (f:Form) (N:Nat) (P:Int) (A:Int->Int):Prop where
 core:∀ i:Nat,i<N->f.Core[i]? = some [⟨A i,A (i+1)-1⟩]
 len:f.Core.length=N
 count:f.Count=N
 per:f.Period=P
 odd:f.Odd=[]
 pos:1<=N/\N<=4800
 posP:1<=P/\P<=146097
 up:∀ i,A i+1<=A (i+1)
 turn:∀ i,A (i+N)=A i+P
 far:∀ i b:Int,-b<=i->i<=b->0<=b->-(400*b+1000)<=A i/\A i<=400*b+1000
def AOf:Nat->Int->Int
 | 0,i|1,i=>i
 | 2,i=>7*i-3
 | 3,i=>Dy i
 | 4,i=>Dy (3*i)
 | _,i=>Dy (12*i)
def NOf:Nat->Nat
 | 0|1|2=>1
 | 3=>4800
 | 4=>1600
 | _=>400
def POf:Nat->Int
 | 0|1=>1
 | 2=>7
 | _=>146097
theorem Mo_gr {n N:Nat} (hn:1<=n/\n<=12) (hN:n*N=4800):Gr (Mo n N) N 146097 (λi=>Dy (n*i)):=by
 have hN0:1<=N:=by
  rcases Nat.eq_zero_or_pos N with h|h
  ·subst h;omega
  ·exact h
 have hN1:N<=4800:=by
  have:=YQ N hn.1;omega
 refine ⟨λi hi=>?_,Mo_len n N,rfl,rfl,rfl,⟨hN0,hN1⟩,by omega,λi=>?_,λi=>?_,λi b h0 h1 hb=>?_⟩
 ·rw [Mo_at hi];have e1:((i*n:Nat):Int)=n*i:=by push_cast;rw [Int.mul_comm]
  have e2:((i*n:Nat):Int)+n=n*(i+1):=by rw [e1,Y0a,Int.mul_one]
  rw [e2,e1]
 ·have:=Z4e (a:=n*i) (b:=n*(i+1)) (by rw [Y0a];omega)
  rw [Y0a,Int.mul_one] at this ⊢;omega
 ·have e:(n:Int)*(i+N)=n*i+4800:=by
   rw [Y0a,<- Int.natCast_mul,hN]
   rfl
  rw [e,Dy_turn]
 ·have e1:(n:Int)*i<=12*b:=by
   have a1:(n:Int)*i<=n*b:=Y02 h1 (by omega)
   have a2:(n:Int)*b<=12*b:=Y00 (by omega) hb
   omega
  have e2 : -(12*b)<=(n:Int)*i:=by
   have a1:(n:Int)*(-b)<=n*i:=Y02 h0 (by omega)
   have a2:(n:Int)*b<=12*b:=Y00 (by omega) hb
   rw [Int.mul_neg] at a1;omega
  have:=Dy_far e2 e1 (by omega)
  omega
theorem made_gr {j:Nat} (hj:j<6):Gr (Z06 j) (NOf j) (POf j) (AOf j):=by
 match j,hj with
 | 0,_|1,_=>exact ⟨λi hi=>match i,hi with|0,_=>rfl|i+1,hi=>absurd hi (by simp only [NOf];omega),rfl,rfl,rfl,rfl,by decide,by decide,λi=>by simp only [AOf];omega,λi=>by simp only [AOf,NOf,POf];rfl,λi b h0 h1 hb=>by simp only [AOf];omega⟩
 | 2,_=>exact ⟨λi hi=>match i,hi with|0,_=>rfl|i+1,hi=>absurd hi (by simp only [NOf];omega),rfl,rfl,rfl,rfl,by decide,by decide,λi=>by simp only [AOf];omega,λi=>by simp only [AOf,NOf,POf];omega,λi b h0 h1 hb=>by simp only [AOf];omega⟩
 | 3,_=>
  have h:=Mo_gr (n:=1) (N:=4800) (by omega) rfl
  have e:(λi:Int=>Dy (((1:Nat):Int)*i))=AOf 3:=by funext i;show Dy (1*i)=Dy i;rw [Int.one_mul]
  rw [e] at h;exact h
 | 4,_=>exact Mo_gr (n:=3) (N:=1600) (by omega) rfl
 | 5,_=>exact Mo_gr (n:=12) (N:=400) (by omega) rfl
section
variable {f:Form} {N:Nat} {P:Int} {A:Int->Int}
theorem Gr.turns (g:Gr f N P A) (i:Int) (t:Nat):A (i+N*t)=A i+P*t:=by
 induction t with
 | zero=>simp
 | succ t ih=>
  have h1:(N:Int)*((t+1:Nat):Int)=N*t+N:=by push_cast;rw [Y0a,Int.mul_one]
  have h2:P*((t+1:Nat):Int)=P*t+P:=by push_cast;rw [Y0a,Int.mul_one]
  rw [h1,<- Int.add_assoc,g.turn,ih,h2,Int.add_assoc]
theorem Gr.turnZ (g:Gr f N P A) (i q:Int):A (i+N*q)=A i+P*q:=by
 rcases Int.lt_or_le q 0 with h|h
 ·have e:=g.turns (i+N*q) (-q).toNat
  rw [show ((-q).toNat:Int) = -q by omega,Int.mul_neg,Int.mul_neg,Int.add_neg_cancel_right] at e
  omega
 ·have e:=g.turns i q.toNat
  rw [show (q.toNat:Int)=q by omega] at e
  exact e
theorem Gr.not_odd (g:Gr f N P A) (i:Int):¬ isOdd f i:=λ⟨x,hx,_⟩=>by rw [g.odd] at hx;cases hx
theorem Gr.Z0A (g:Gr f N P A) (i:Int):Z0A f i=[⟨A i,A (i+1)-1⟩]:=by
 have hp:=g.pos
 rw [Z2l (g.not_odd i) (by rw [g.count];omega)]
 unfold Z23 Z44
 rw [g.count,g.per]
 have h0:=Y03 i (show (N:Int)≠0 by omega)
 have h1:=Y0Z i (show (0:Int)<N by omega)
 have hc:=g.core (i % N).toNat (by omega)
 rw [Yx,hc,show ((i % N).toNat:Int)=i % N by omega]
 have e:=Int.emod_add_mul_ediv i N
 have e1:=g.turnZ (i % N) (i / N)
 have e2:=g.turnZ (i % N+1) (i / N)
 rw [e] at e1
 rw [show i % N+1+N*(i / N)=i+1 by omega] at e2
 have e3:i / N*P=P*(i / N):=Int.mul_comm _ _
 simp only [Y0G,Y0C,List.map_nil,Z0u,e3,e1,e2]
 congr 2
 omega
theorem Gr.mem (g:Gr f N P A) {l:List Span} (hl:l∈f.Core):∃ i:Nat,i<N/\l=[⟨A i,A (i+1)-1⟩]:=by
 obtain ⟨i,hi⟩:=Yc hl
 have hlt:=(List.getElem?_eq_some_iff.1 hi).1
 rw [g.len] at hlt
 rw [g.core i hlt] at hi
 exact ⟨i,hlt,(Option.some.inj hi).symm⟩
theorem Gr.tick (g:Gr f N P A) {i:Int} (h0 : -2000000000<=i) (h1:i<=2000000000):ZY (A i)/\ZY (A (i+1)-1):=by
 have a:=g.far i 2000000001 (by omega) (by omega) (by omega)
 have b:=g.far (i+1) 2000000001 (by omega) (by omega) (by omega)
 unfold ZY
 omega
theorem Gr.rightL (g:Gr f N P A) {i:Int} (h0 : -2000000000<=i) (h1:i<=2000000000):RightL [⟨A i,A (i+1)-1⟩]:=by
 have ht:=g.tick h0 h1
 have hu:=g.up i
 refine ⟨λk s hk=>?_,λk s t hk hk1=>?_⟩
 ·cases k with
  | zero=>cases hk;exact ⟨ht.1,ht.2,by simp only;omega⟩
  | succ k=>simp at hk
 ·simp at hk1
theorem Gr.shape (g:Gr f N P A):Shape f:=by
 have hp:=g.pos
 have hP:=g.posP
 refine ⟨by rw [g.count,g.len],by rw [g.count,g.per];omega,by rw [g.per];omega,λl hl=>?_,λx hx=>?_,λj k a b _ h=>?_⟩
 ·obtain ⟨i,hi,rfl⟩:=g.mem hl;exact g.rightL (by omega) (by omega)
 ·rw [g.odd] at hx;cases hx
 ·rw [g.odd] at h;simp at h
theorem Gr.lim (g:Gr f N P A):Lim f:=by
 have hp:=g.pos
 have hP:=g.posP
 refine ⟨by rw [g.len];unfold reachBytes;omega,λl hl=>?_,by rw [g.odd];simp,λx hx=>?_,by rw [g.count];unfold In64;omega,by rw [g.per];unfold In64;omega⟩
 ·obtain ⟨i,hi,rfl⟩:=g.mem hl;exact ⟨by unfold Len reachBytes;simp,(g.rightL (by omega) (by omega)).sp64⟩
 ·rw [g.odd] at hx;cases hx
theorem Gr.full (g:Gr f N P A):full f=f.Core:=by
 unfold Dn.full
 rw [List.filter_eq_self]
 intro l hl
 obtain ⟨i,hi,rfl⟩:=g.mem hl
 rfl
theorem Gr.right (g:Gr f N P A):RightF f:=by
 have hp:=g.pos
 refine ⟨g.shape,⟨λk a b ha hb=>?_,λa b ha hb=>?_⟩,λx hx=>?_⟩
 ·rw [g.full] at ha hb;have h1:=(List.getElem?_eq_some_iff.1 hb).1;rw [g.len] at h1;rw [g.core k (by omega)] at ha
  rw [g.core (k+1) h1] at hb;cases ha;cases hb;show A (k+1)-1<A ((k+1:Nat):Int);rw [show ((k+1:Nat):Int)=(k:Int)+1 by omega]
  omega
 ·rw [g.full] at ha hb;rw [List.getLast?_eq_getElem?,g.len,g.core (N-1) (by omega)] at ha
  rw [List.head?_eq_getElem?,g.core 0 (by omega)] at hb
  cases ha;cases hb;have:=g.turn 0;show A (((N-1:Nat):Int)+1)-1<A ((0:Nat):Int)+f.Period;rw [g.per,show ((N-1:Nat):Int)+1=0+N by omega,this]
  show A 0+P-1<A 0+P;omega
 ·rw [g.odd] at hx;cases hx
theorem Gr.get (g:Gr f N P A) {i:Int} (h0 : -2000000000<=i) (h1:i<=2000000000):Z19 f i=some ([⟨A i,A (i+1)-1⟩],0):=by
 rw [gran_Get_eq g.lim g.shape (show In64 i by unfold In64;omega),if_pos,g.Z0A]
 refine ⟨by unfold ZY;omega,λs hs=>?_⟩
 rw [g.Z0A] at hs
 cases List.mem_singleton.1 hs
 exact g.tick h0 h1
end
end Go.Dn

namespace Go.Dn
open Go
theorem none_at:∀ j:Nat,j<6->([none,none,none,none,none,none] : List (Option Form))[j]? = some none
 | 0,_|1,_|2,_|3,_|4,_|5,_=>rfl
 | j+6,h=>by omega
theorem none_ok:CalOK [none,none,none,none,none,none]:=⟨rfl,λj hj=>.inl (none_at j hj)⟩
end Go.Dn

namespace Go.Dn
open Go
theorem Z6L {k:Int} (h : -2000000<=k/\k<=2000000):Z0a (7*k-3)=some 1:=by
 unfold Z0a
 have e:(7*k-3).tmod 7=4\/(7*k-3).tmod 7 = -3:=by
  rcases tdm (7*k-3) 7 (by omega) with h|h|h<;>omega
 rcases e with e|e<;>rw [e]<;>rfl
def inGr (n:Int) (x:Anon48):Prop:=∃ j:Nat,j<6/\(x.name.toList==(Z8.getD j ByteArray.empty).toList)=true/\-100000000<=x.index/\x.index<=100000000/\AOf j x.index<=n/\n+1<=AOf j (x.index+1)
theorem dates_step {year month:Int} {x1:Int×Int} {L:List Anon48}
  (hL : [(Anon48.mk (ByteArray.mk #[100,97,121]) x1.1),(Anon48.mk (ByteArray.mk #[109,111,110,116,104]) (w64 ((w64 ((w64 ((w64 (year-1970))*12))+month))-1))),(Anon48.mk (ByteArray.mk #[113,117,97,114,116,101,114]) (w64 ((w64 ((w64 ((w64 ((w64 ((w64 (year-1970))*12))+month))-1))-((w64 (month-1)).tmod 3))).tdiv 3))),(Anon48.mk (ByteArray.mk #[121,101,97,114]) (w64 (year-1970)))]=L)
  (h:∀ x∈L,inGr x1.1 x) (hl:L.length=4):∃ ks m,loopO (Z7.s0 year month x1) (0,0,[none,none,none,none,none,none])=some (.go (m,ks))/\CalOK ks/\0<=m/\m<=100:=by
 have key:=Z5N (step:=Z7.s0 year month x1) (I:=λ(s:Int×Int×List (Option Form))=>∃ i:Nat,i<=4/\s.1=i/\CalOK s.2.2/\0<=s.2.1/\s.2.1<=i) (λs=>4-s.1.toNat)
  (λr=>∃ ks m,r = .go (m,ks)/\CalOK ks/\0<=m/\m<=100) (λs ⟨i,hi,e,hk,m0,m1⟩=>by
   obtain ⟨s1,m,ks⟩:=s;simp only at e hk m0 m1;subst e;unfold Z7.s0;simp only;rw [hL,hl]
   by_cases hlt:i<4
   ·refine .inl ?_;rw [Z0d (by omega),at?_nat (by omega)]
    simp only [cond_true,Y4];obtain ⟨j,hj,hn,b0,b1,h0,h1⟩:=h _ (Y0F (show i<L.length by omega))
    obtain ⟨ks',m',e1,e2,e3,e4⟩:=cal_any (m:=m) hj hn hk (by omega)
    have g:=made_gr hj;rw [e1];simp only [Y4];have hf:Form.mk (Z06 j).Period (Z06 j).Count (Z06 j).Core (Z06 j).Odd=Z06 j:=rfl;rw [hf,g.get (by omega) (by omega)]
    simp only [Y4];rw [bne_f rfl,bne_f (show (([(⟨AOf j L[i].index,AOf j (L[i].index+1)-1⟩ : Span)] : List Span).length:Int)=1 from rfl)];simp only [Bool.or_self,cond_false];have a0:∀ s:Span,at? [s] 0=some s:=λs=>rfl;simp only [a0,Y4];rw [Z0R (show ¬ x1.1<AOf j L[i].index by omega)]
    simp only [cond_false,Y4];rw [Z0R (show ¬ x1.1>AOf j (L[i].index+1)-1 by omega)]
    simp only [cond_false];rw [ZN (by omega)]
    exact ⟨_,rfl,⟨i+1,by omega,by push_cast;rfl,e2,e3,by show m'<=((i+1:Nat):Int);omega⟩,by simp only;omega⟩
   ·refine .inr ⟨_,by rw [Z0R (by omega)];rfl,ks,m,rfl,hk,m0,by omega⟩) (0,0,[none,none,none,none,none,none]) ⟨0,by omega,rfl,none_ok,by simp,by simp⟩
 obtain ⟨r,h1,ks,m,rfl,h2,h3,h4⟩:=key
 exact ⟨ks,m,h1,h2,h3,h4⟩
theorem Z5u (year month day:Int) (oy:okI .i64 year) (om:okI .i64 month) (od:okI .i64 day):Z7 year month day=some true:=by
 rw [okI_i64] at oy om od
 unfold Z7
 rcases Z3u (y:=year) (mo:=month) (d:=day) od om with h|⟨k,rfl,k1,k2,y0,y1,d0,d1,h⟩
 ·rw [h]
  rfl
 rw [h]
 simp only [Y4]
 rw [bne_f rfl]
 simp only [cond_false]
 -- the day's number,its month
 obtain ⟨m,hm⟩ : ∃ m,m=(year-1970)*12+((k:Int)-1):=⟨_,rfl⟩
 have q1:m / 12=year-1970:=by omega
 have q2:(m % 12).toNat=k-1:=by omega
 have hD:Dy m=Bg year+Up year (k-1):=by
  unfold Dy;rw [q1,q2,show 1970+(year-1970)=year by omega]
 have hS:Dy (m+1)=Bg year+Up year k:=by
  rw [Dy_succ,q1,q2,show 1970+(year-1970)=year by omega,show k-1+1=k by omega]
 obtain ⟨n,hn⟩ : ∃ n,Bg year+Up year (k-1)+day-1=n:=⟨_,rfl⟩
 rw [hn]
 have n0:Dy m<=n:=by omega
 have n1:n+1<=Dy (m+1):=by omega
 have hB:=Bg_bd (y:=year) (by omega)
 have hU:=Up_bd year (show k<=12 from k2)
 have hU':=Up_bd year (show k-1<=12 by omega)
 have nb : -5000000<=n/\n<=5000000:=by
  unfold Bg at hn;omega
 have tm:(w64 ((k:Int)-1)).tmod 3=((k:Int)-1) % 3:=by
  rw [ZN (by omega),Y0R (by omega)]
 have e1:w64 (w64 (w64 (w64 (year-1970)*12)+(k:Int))-1)=m:=by
  rw [ZN (x:=year-1970) (by omega),ZN (x:=(year-1970)*12) (by omega),ZN (x:=(year-1970)*12+(k:Int)) (by omega),ZN (by omega)]
  omega
 have e2:w64 ((w64 (m-(w64 ((k:Int)-1)).tmod 3)).tdiv 3)=m / 3:=by
  rw [tm,ZN (x:=m-((k:Int)-1) % 3) (by omega)]
  have:(m-((k:Int)-1) % 3).tdiv 3=m / 3:=by
   rcases tdm (m-((k:Int)-1) % 3) 3 (by omega) with h|h|h<;>omega
  rw [this,ZN (by omega)]
 have e3:w64 (year-1970)=m / 12:=by
  rw [ZN (by omega),q1]
 have w1:((ByteArray.mk #[100,97,121]).toList==(Z8.getD 1 ByteArray.empty).toList)=true:=by decide +kernel
 have w3:((ByteArray.mk #[109,111,110,116,104]).toList==(Z8.getD 3 ByteArray.empty).toList)=true:=by decide +kernel
 have w4:((ByteArray.mk #[113,117,97,114,116,101,114]).toList==(Z8.getD 4 ByteArray.empty).toList)=true:=by decide +kernel
 have w5:((ByteArray.mk #[121,101,97,114]).toList==(Z8.getD 5 ByteArray.empty).toList)=true:=by decide +kernel
 obtain ⟨ks,mm,hl,hk,m0,m1⟩:=dates_step (year:=year) (month:=(k:Int)) (x1:=(n,0)) (L:=[⟨ByteArray.mk #[100,97,121],n⟩,⟨ByteArray.mk #[109,111,110,116,104],m⟩,⟨ByteArray.mk #[113,117,97,114,116,101,114],m / 3⟩,⟨ByteArray.mk #[121,101,97,114],m / 12⟩]) (by rw [e1,e2,e3]) (λx hx=>by
  simp only [List.mem_cons,List.not_mem_nil,or_false] at hx;rcases hx with rfl|rfl|rfl|rfl
  ·exact ⟨1,by decide,w1,by simp only;omega,by simp only;omega,by simp only [AOf];omega,by simp only [AOf];omega⟩
  ·exact ⟨3,by decide,w3,by simp only;omega,by simp only;omega,n0,n1⟩
  ·have a:=Z4e (a:=3*(m / 3)) (b:=m) (by omega)
   have b:=Z4e (a:=m+1) (b:=3*(m / 3+1)) (by omega)
   exact ⟨4,by decide,w4,by simp only;omega,by simp only;omega,by show Dy (3*(m / 3))<=n;omega,by show n+1<=Dy (3*(m / 3+1));omega⟩
  ·have a:=Z4e (a:=12*(m / 12)) (b:=m) (by omega)
   have b:=Z4e (a:=m+1) (b:=12*(m / 12+1)) (by omega)
   exact ⟨5,by decide,w5,by simp only;omega,by simp only;omega,by show Dy (12*(m / 12))<=n;omega,by show n+1<=Dy (12*(m / 12+1));omega⟩) rfl
 rw [hl]
 simp only [Y4,Jx.elim]
 obtain ⟨ks',m',e,_⟩:=cal_any (v:=ByteArray.mk #[119,101,101,107]) (j:=2) (m:=mm) (by decide) (by decide +kernel) hk (by omega)
 rw [e]
 simp only [Y4]
 -- its week
 have g:=made_gr (j:=2) (by decide)
 obtain ⟨i,hi⟩ : ∃ i,n.tdiv 7-1=i:=⟨_,rfl⟩
 have td:i+1=n.tdiv 7:=by omega
 have ib : -1000000<=i/\i<=1000000/\i<=(n+3) / 7/\(n+3) / 7<=i+3:=by
  rcases tdm n 7 (by omega) with h|h|h<;>omega
 have i1:w64 (w64 (n.tdiv 7)-1)=i:=by
  rw [<- td,ZN (x:=i+1) (by omega),ZN (by omega)]
  omega
 have hw:loopO (Z7.s1 (n,0) ((Z06 2,0),(ks',m'))) i=some (.ret true):=by
  refine Z1L (I:=λ(s:Int) r=>r = .ret true/\i<=s/\s<=(n+3) / 7) (λs=>((n+3) / 7-s).toNat) ?_ ⟨rfl,by omega,by omega⟩
  rintro s r ⟨rfl,s0,s1⟩;unfold Z7.s1;simp only;rw [i1,ZN (x:=i+3) (by omega),Z0d (by omega)]
  have hf:Form.mk (Z06 2).Period (Z06 2).Count (Z06 2).Core (Z06 2).Odd=Z06 2:=rfl;rw [hf,g.get (by omega) (by omega)]
  simp only [cond_true,Y4];have a0:∀ s:Span,at? [s] 0=some s:=λs=>rfl;have aa:∀ z,AOf 2 z=7*z-3:=λz=>rfl;rw [bne_f rfl,bne_f (show (([(⟨AOf 2 s,AOf 2 (s+1)-1⟩ : Span)] : List Span).length:Int)=1 from rfl)];simp only [Bool.or_self,cond_false,a0,Y4,aa];rw [Z6L (by omega)]
  simp only [Y4];rw [bne_f rfl];simp only [cond_false,Y4];rw [ZN (x:=7*(s+1)-3-1-(7*s-3)) (by omega),bne_f (show 7*(s+1)-3-1-(7*s-3)=6 by omega)]
  simp only [cond_false]
  by_cases hin:s=(n+3) / 7
  ·refine .inr ?_;rw [Z0d (show n>=7*s-3 by omega)]
   simp only [cond_true,Y4];rw [Z0d (show n<=7*(s+1)-3-1 by omega)]
   rfl
  ·refine .inl ⟨s+1,?_,⟨trivial,by omega,by omega⟩,by omega⟩
   rw [Z0d (show n>=7*s-3 by omega)]
   simp only [cond_true,Y4];rw [Z0R (show ¬ n<=7*(s+1)-3-1 by omega)]
   simp only [cond_false];rw [ZN (by omega)]
 rw [i1,hw]
 rfl
end Go.Dn
