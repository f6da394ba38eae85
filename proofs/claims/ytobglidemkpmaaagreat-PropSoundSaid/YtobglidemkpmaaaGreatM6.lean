/- Part 6 of what the row stands on. -/
import Derived.Test.YtobglidemkpmaaaGreatM5
set_option linter.unusedVariables false
set_option linter.unusedSimpArgs false
namespace Go.Dn
open Go
def CoreP (g:Form) (up:Bool) (d i j:Int):Prop:=cs g i ≠ []∧cs g j ≠ []∧(if up then d≤lstT (cs g j) - fstT (cs g i) else fstT (cs g j) - lstT (cs g i)≤d)
def Z1C (g:Form) (up:Bool) (d i j:Int):Prop:=ZK g i ≠ []∧ZK g j ≠ []∧(if up then d≤lstT (ZK g j) - fstT (ZK g i) else fstT (ZK g j) - lstT (ZK g i)≤d)
def BigI (n:Int):Prop:=-600000000000000≤n∧n≤600000000000000
theorem putB_big {b:Int × Bool} {n:Int} (hb:BigI b.1) (hn:BigI n):BigI (putB b n).1:=by
 unfold putB;split
 ·exact hn
 ·exact hb
theorem sg_big {up:Bool} {n:Int} (h:BigI n):BigI (sgU up * n):=by unfold BigI sgU at *;cases up <;> simp <;> omega
theorem Best.join {S W S':Int→Prop} {b:Int × Bool} {m0:Int} (h:Best S b) (hm:W m0) (hall:∀ n,W n→n≤m0) (hS:∀ m,S' m ↔ S m∨W m):Best S' (putB b m0):=by
 have h1:=h.put (S':=fun m => S m∨m = m0) (n:=m0) (fun m => Iff.rfl)
 refine ⟨fun hb => ⟨(hS _).2 ?_,fun n hn => ?_⟩,fun hb => ⟨(h1.no hb).1,fun n hn => ?_⟩⟩
 ·rcases (h1.yes hb).1 with h2 | h2
  ·exact .inl h2
  ·rw [h2];exact .inr hm
 ·rcases (hS n).1 hn with h2 | h2
  ·exact (h1.yes hb).2 n (.inl h2)
  ·exact Int.le_trans (hall n h2) ((h1.yes hb).2 m0 (.inr rfl))
 ·exact (h1.no hb).2 m0 (.inr rfl)
theorem sgw2 (up:Bool) {x:Int} (h:BigI x):w64 (sgU up * w64 x) = sgU up * x:=by
 unfold BigI at h
 rw [Z9 (x:=x) (by omega),Z9]
 unfold sgU;cases up <;> simp <;> omega
theorem sg_le {up:Bool} {i n x:Int} (h:sgU up * i≤sgU up * n):sgU up * (i - x)≤sgU up * (n - x):=by rw [Int.mul_sub,Int.mul_sub];omega
theorem far_spots {g:Form} (h:Fit g) (hb:0 < g.Count→¬ Bare g) {d:Int} (hd:ZE d) (up:Bool) :
  ∃ r,loopO (ZX.s0 d up ⟨g,Z2H g⟩ (sgU up)) (0,0,false) = some r∧BigI r.1∧Best (fun m => ∃ i j,0≤i∧i < g.Count∧CoreP g up d i j∧m = sgU up * (j - i)) r:=by
 have hs:=h.shape
 have hcnt:=hs.count
 have hfew:=h.few
 have hsp:=spots_ok hs
 have hln:(Z2H g).length≤12:=Yc (Z99 g _) h.few
 generalize Z2H g = sp at *
 obtain ⟨r,q1,q2⟩:=Z0N (step:=ZX.s0 d up ⟨g,sp⟩ (sgU up))
  (fun s => ∃ (k:Nat) (c:Int × Bool),k≤sp.length∧s = ((k:Int),c.1,c.2)∧BigI c.1∧Best (fun m => ∃ x ∈ sp.take k,∃ j,CoreP g up d x.index j∧m = sgU up * (j - x.index)) c)
  (fun s => sp.length - s.1.toNat)
  (fun r => BigI r.1∧Best (fun m => ∃ i j,0≤i∧i < g.Count∧CoreP g up d i j∧m = sgU up * (j - i)) r) (by
   rintro s ⟨k,c,hk,rfl,hcb,hc⟩;unfold ZX.s0;simp only
   by_cases hlt:k < sp.length
   ·left
    have hm:=YE hlt
    have htk:sp.take (k + 1) = sp.take k ++ [sp[k]]:=(Y05 hlt).symm
    obtain ⟨b1,b2,b3,b4,b5⟩:=hsp.mem _ hm
    have h0:0 < g.Count:=by omega
    have rx:=Z5e (Z38 hs h0 b1 b2) b3
    rw [← b4,← b5] at rx;unfold ZE at rx hd;rw [ZP (show (k:Int) < sp.length by omega),cond_true,at?_nat hlt]
    simp only [Y0];have hy:(bif up then some sp[k].place.first else some sp[k].place.last) = some (if up then sp[k].place.first else sp[k].place.last):=by cases up <;> rfl
    rw [hy];simp only [Y0];have hyb : -1099511627776≤(if up then sp[k].place.first else sp[k].place.last)∧(if up then sp[k].place.first else sp[k].place.last)≤1099511627776:=by split <;> omega
    have hye:(if up then sp[k].place.first else sp[k].place.last) = if up then fstT (cs g sp[k].index) else lstT (cs g sp[k].index):=by rw [b4,b5]
    generalize (if up then sp[k].place.first else sp[k].place.last) = y at *
    rw [Z9 (x:=y + d) (by omega)]
    have hn:sp ≠ []:=Y0w hm
    have hcore:∃ i0,Z0X ⟨g,sp⟩ (y + d) up = some i0∧(if up then FirstC g (y + d) i0 else LastC g (y + d) i0)∧-211106232532992≤i0∧i0≤211106232532992:=by
     cases up
     ·obtain ⟨i,e1,e2,e3⟩:=ZBP h h0 hsp hn hln (t:=y + d) (by unfold BigT;omega)
      exact ⟨i,e1,by simpa using e2,e3⟩
     ·obtain ⟨i,e1,e2,e3⟩:=ZDb h h0 hsp hn hln (t:=y + d) (by unfold BigT;omega)
      exact ⟨i,e1,by simpa using e2,e3⟩
    obtain ⟨i0,c1,c2,c3⟩:=hcore
    rw [c1];simp only [Y0];have hbi:BigI (i0 - sp[k].index):=by unfold BigI;omega
    rw [sgw2 up hbi,ZCv];simp only [Y0];rw [Z9 (by omega)]
    refine ⟨_,rfl,⟨k + 1,putB c (sgU up * (i0 - sp[k].index)),hlt,by push_cast;rfl,putB_big hcb (sg_big hbi),?_⟩,by simp only;omega⟩
    refine hc.join (W:=fun m => ∃ j,CoreP g up d sp[k].index j∧m = sgU up * (j - sp[k].index)) ?_ ?_ ?_
    ·refine ⟨i0,⟨b3,?_⟩,rfl⟩;cases up
     ·simp only [Y6,if_false] at c2 hye ⊢;exact ⟨c2.1,by have:=c2.2.1;omega⟩
     ·simp only [if_true] at c2 hye ⊢;exact ⟨c2.1,by have:=c2.2.1;omega⟩
    ·rintro n ⟨j,j1,rfl⟩;apply sg_le;cases up
     ·simp only [Y6,if_false,sgU] at c2 hye ⊢
      by_cases hji:j≤i0
      ·omega
      ·have:=c2.2.2 j (by omega) j1.2.1
       have j2:=j1.2.2
       simp only [Y6,if_false] at j2;omega
     ·simp only [if_true,sgU] at c2 hye ⊢
      by_cases hji:i0≤j
      ·omega
      ·have:=c2.2.2 j (by omega) j1.2.1
       have j2:=j1.2.2
       simp only [if_true] at j2;omega
    ·intro m;rw [htk]
     constructor
     ·rintro ⟨x,hx,j,j1,j2⟩
      rcases List.mem_append.1 hx with h3 | h3
      ·exact .inl ⟨x,h3,j,j1,j2⟩
      ·rw [YO] at h3;subst h3;exact .inr ⟨j,j1,j2⟩
     ·rintro (⟨x,hx,j,j1,j2⟩ | ⟨j,j1,j2⟩)
      ·exact ⟨x,Yf _ hx,j,j1,j2⟩
      ·exact ⟨_,Yk _ (List.mem_singleton.2 rfl),j,j1,j2⟩
   ·right
    obtain rfl:k = sp.length:=by omega
    rw [ZQ (by omega),cond_false]
    rw [Yx] at hc;refine ⟨_,rfl,hcb,hc.congr fun m => ?_⟩
    constructor
    ·rintro ⟨i,j,i0,i1,hp,e⟩;obtain ⟨x,hx,rfl⟩:=hsp.all i i0 i1 hp.1
     exact ⟨x,hx,j,hp,e⟩
    ·rintro ⟨x,hx,j,hp,e⟩;obtain ⟨b1,b2,_⟩:=hsp.mem x hx
     exact ⟨x.index,j,b1,b2,hp,e⟩) (0,0,false) ⟨0,(0,false),YM _,rfl,by unfold BigI;simp,Best.none (by simp)⟩
 exact ⟨r,q1,q2⟩
theorem pair_at {g:Form} {up:Bool} {d i j:Int}:Z1C g up d i j ↔ ZK g i ≠ []∧AtP g up ((if up then fstT (ZK g i) else lstT (ZK g i)) + d) j:=by
 unfold Z1C AtP
 cases up
 ·simp only [Y6,if_false];exact ⟨fun h => ⟨h.1,h.2.1,by omega⟩,fun h => ⟨h.1,h.2.1,by omega⟩⟩
 ·simp only [if_true];exact ⟨fun h => ⟨h.1,h.2.1,by omega⟩,fun h => ⟨h.1,h.2.1,by omega⟩⟩
theorem pair_to {g:Form} {up:Bool} {d i j:Int}:Z1C g up d i j ↔ ZK g j ≠ []∧AtP g (!up) ((if up then lstT (ZK g j) else fstT (ZK g j)) - d) i:=by
 unfold Z1C AtP
 cases up
 ·simp only [Y6,if_false,Yj,if_true];exact ⟨fun h => ⟨h.2.1,h.1,by omega⟩,fun h => ⟨h.2.1,h.1,by omega⟩⟩
 ·simp only [if_true,YD,Y6,if_false];exact ⟨fun h => ⟨h.2.1,h.1,by omega⟩,fun h => ⟨h.2.1,h.1,by omega⟩⟩
theorem sg_not (up:Bool) (n:Int):sgU (!up) * n = -(sgU up * n):=by unfold sgU;cases up <;> simp
theorem far_odds {g:Form} (h:Fit g) (hb:0 < g.Count→¬ Bare g) {d:Int} (hd:ZE d) (up:Bool) {b:Int × Bool} {S:Int→Prop} (hbb:BigI b.1) (hB:Best S b) :
  ∃ r,loopO (ZX.s2 d up ⟨g,Z2H g⟩ (sgU up)) (0,b.1,b.2) = some r∧BigI r.1∧Best (fun m => S m∨∃ i j,(Z0F g i∨Z0F g j)∧Z1C g up d i j∧m = sgU up * (j - i)) r:=by
 have hs:=h.shape
 have hl:=h.lim
 have hodd:=h.odds
 obtain ⟨r,q1,q2⟩:=Z0N (step:=ZX.s2 d up ⟨g,Z2H g⟩ (sgU up))
  (fun s => ∃ (k:Nat) (c:Int × Bool),k≤g.Odd.length∧s = ((k:Int),c.1,c.2)∧BigI c.1∧Best (fun m => S m∨∃ x ∈ g.Odd.take k,∃ i j,(x.Index = i∨x.Index = j)∧Z1C g up d i j∧m = sgU up * (j - i)) c)
  (fun s => g.Odd.length - s.1.toNat)
  (fun r => BigI r.1∧Best (fun m => S m∨∃ i j,(Z0F g i∨Z0F g j)∧Z1C g up d i j∧m = sgU up * (j - i)) r) (by
   rintro s ⟨k,c,hk,rfl,hcb,hc⟩;unfold ZX.s2;simp only
   by_cases hlt:k < g.Odd.length
   ·left
    have hm:=YE hlt
    have htk:g.Odd.take (k + 1) = g.Odd.take k ++ [g.Odd[k]]:=(Y05 hlt).symm
    have hset:ZK g g.Odd[k].Index = g.Odd[k].Ticks:=Z1c hs.inc hm
    have hti:=(hs.odd _ hm).2
    have hrt:=(hs.odd _ hm).1
    rw [ZP (show (k:Int) < g.Odd.length by omega),cond_true,at?_nat hlt]
    simp only [Y0];rw [Z9T (hl.ticks _ hm).2.1];simp only [Y0]
    by_cases hne:g.Odd[k].Ticks = []
    ·rw [if_pos hne];simp only [Yj,cond_true,Y0,Jx.elim];rw [Z9 (by omega)]
     refine ⟨_,rfl,⟨k + 1,c,hlt,by push_cast;rfl,hcb,?_⟩,by simp only;omega⟩
     refine hc.congr fun m => ?_
     rw [htk]
     constructor
     ·rintro (h1 | ⟨x,hx,i,j,h1,h2,h3⟩)
      ·exact .inl h1
      ·rcases List.mem_append.1 hx with h4 | h4
       ·exact .inr ⟨x,h4,i,j,h1,h2,h3⟩
       ·rw [YO] at h4;subst h4
        rcases h1 with rfl | rfl
        ·exact absurd (hset.trans hne) h2.1
        ·exact absurd (hset.trans hne) h2.2.1
     ·rintro (h1 | ⟨x,hx,h1⟩)
      ·exact .inl h1
      ·exact .inr ⟨x,Yf _ hx,h1⟩
    ·rw [if_neg hne];have rx:=Z5e hrt hne
     unfold ZE at rx hd hti;simp only [YD,cond_false];have hy:(bif up then some (lstT g.Odd[k].Ticks,fstT g.Odd[k].Ticks) else some (fstT g.Odd[k].Ticks,lstT g.Odd[k].Ticks)) = some ((if up then lstT g.Odd[k].Ticks else fstT g.Odd[k].Ticks),(if up then fstT g.Odd[k].Ticks else lstT g.Odd[k].Ticks)):=by cases up <;> rfl
     rw [hy];simp only [Y0];have hyb : -1099511627776≤(if up then lstT g.Odd[k].Ticks else fstT g.Odd[k].Ticks)∧(if up then lstT g.Odd[k].Ticks else fstT g.Odd[k].Ticks)≤1099511627776:=by split <;> omega
     have hzb : -1099511627776≤(if up then fstT g.Odd[k].Ticks else lstT g.Odd[k].Ticks)∧(if up then fstT g.Odd[k].Ticks else lstT g.Odd[k].Ticks)≤1099511627776:=by split <;> omega
     have pa:∀ j,Z1C g up d g.Odd[k].Index j ↔ AtP g up ((if up then fstT g.Odd[k].Ticks else lstT g.Odd[k].Ticks) + d) j:=fun j => by
      rw [pair_at,hset];exact ⟨fun h => h.2,fun h => ⟨hne,h⟩⟩
     have pt:∀ i,Z1C g up d i g.Odd[k].Index ↔ AtP g (!up) ((if up then lstT g.Odd[k].Ticks else fstT g.Odd[k].Ticks) - d) i:=fun i => by
      rw [pair_to,hset];exact ⟨fun h => h.2,fun h => ⟨hne,h⟩⟩
     generalize (if up then fstT g.Odd[k].Ticks else lstT g.Odd[k].Ticks) = z at *
     generalize (if up then lstT g.Odd[k].Ticks else fstT g.Odd[k].Ticks) = y at *
     rw [Z9 (x:=z + d) (by omega),Z9 (x:=y - d) (by omega)]
     obtain ⟨n1,p1,r1,t1,u1,v1⟩:=ZES h hb (t:=z + d) (by unfold BigT;omega) up
     obtain ⟨n2,p2,r2,t2,u2,v2⟩:=ZES h hb (t:=y - d) (by unfold BigT;omega) (!up)
     rw [r1,r2];simp only [Y0];have hb1:BigI (n1 - g.Odd[k].Index):=by unfold BigI;omega
     have hb2:BigI (g.Odd[k].Index - n2):=by unfold BigI;omega
     have first:∃ c1:Int × Bool,(bif p1 then
       (
        (loopO (ZX.s3) (([(w64 (sgU up * (w64 (n1 - g.Odd[k].Index))))].length:Int),0,[(w64 (sgU up * (w64 (n1 - g.Odd[k].Index))))],c.1,c.2)).bind fun (y16:(List Int) × Int × Bool) =>
        some (y16.1,y16.2.1,y16.2.2)).bind fun (y15:(List Int) × Int × Bool) =>
       some (y15.2.1,y15.2.2)
      else
       some (c.1,c.2)) = some c1∧BigI c1.1∧Best (fun m => (S m∨∃ x ∈ g.Odd.take k,∃ i j,(x.Index = i∨x.Index = j)∧Z1C g up d i j∧m = sgU up * (j - i))∨∃ j,Z1C g up d g.Odd[k].Index j∧m = sgU up * (j - g.Odd[k].Index)) c1:=by
      cases hp:p1 with
      | true =>
       subst hp;rw [cond_true,sgw2 up hb1,ZD5];obtain ⟨⟨i,i1,i2⟩,hall⟩:=t1.yes rfl
       have ei:i = n1:=by
        have:=congrArg (fun x => sgU up * x) i2
        simp only [sg_sg] at this;exact this.symm
       subst ei;refine ⟨_,rfl,putB_big hcb (sg_big hb1),?_⟩;refine hc.join (W:=fun m => ∃ j,Z1C g up d g.Odd[k].Index j∧m = sgU up * (j - g.Odd[k].Index)) ⟨i,(pa i).2 i1,rfl⟩ ?_ (fun m => Iff.rfl)
       rintro n ⟨j,j1,rfl⟩;exact sg_le (hall _ ⟨j,(pa j).1 j1,rfl⟩)
      | false =>
       subst hp;rw [cond_false];refine ⟨_,rfl,hcb,hc.congr fun m => ⟨?_,.inl⟩⟩
       rintro (h1 | ⟨j,j1,j2⟩)
       ·exact h1
       ·exact absurd ⟨j,(pa j).1 j1,rfl⟩ ((t1.no rfl).2 (sgU up * j))
     obtain ⟨c1,f1,f2,f3⟩:=first
     rw [f1];simp only [Y0];have second:∃ c2:Int × Bool,(bif p2 then
      (
       (loopO (ZX.s4) (([(w64 (sgU up * (w64 (g.Odd[k].Index - n2))))].length:Int),0,[(w64 (sgU up * (w64 (g.Odd[k].Index - n2))))],c1.1,c1.2)).bind fun (y20:(List Int) × Int × Bool) =>
       some (y20.1,y20.2.1,y20.2.2)).bind fun (y19:(List Int) × Int × Bool) =>
      some (Jx.go (y19.2.1,y19.2.2))
     else
      some (Jx.go (c1.1,c1.2)):Option (Jx (Int × Bool) Unit)) = some (.go c2)∧BigI c2.1∧Best (fun m => ((S m∨∃ x ∈ g.Odd.take k,∃ i j,(x.Index = i∨x.Index = j)∧Z1C g up d i j∧m = sgU up * (j - i))∨∃ j,Z1C g up d g.Odd[k].Index j∧m = sgU up * (j - g.Odd[k].Index))∨∃ i,Z1C g up d i g.Odd[k].Index∧m = sgU up * (g.Odd[k].Index - i)) c2:=by
      cases hp:p2 with
      | true =>
       subst hp;rw [cond_true,sgw2 up hb2,ZD9];obtain ⟨⟨i,i1,i2⟩,hall⟩:=t2.yes rfl
       have ei:i = n2:=by
        have:=congrArg (fun x => sgU (!up) * x) i2
        simp only [sg_sg] at this;exact this.symm
       subst ei;refine ⟨_,rfl,putB_big f2 (sg_big hb2),?_⟩;refine f3.join (W:=fun m => ∃ i,Z1C g up d i g.Odd[k].Index∧m = sgU up * (g.Odd[k].Index - i)) ⟨i,(pt i).2 i1,rfl⟩ ?_ (fun m => Iff.rfl)
       rintro n ⟨j,j1,rfl⟩;have:=hall _ ⟨j,(pt j).1 j1,rfl⟩
       rw [sg_not,sg_not] at this;rw [Int.mul_sub,Int.mul_sub];omega
      | false =>
       subst hp;rw [cond_false];refine ⟨_,rfl,f2,f3.congr fun m => ⟨?_,.inl⟩⟩
       rintro (h1 | ⟨j,j1,j2⟩)
       ·exact h1
       ·exact absurd ⟨j,(pt j).1 j1,rfl⟩ ((t2.no rfl).2 (sgU (!up) * j))
     obtain ⟨c2,g1,g2,g3⟩:=second
     rw [g1];simp only [Y0,Jx.elim];rw [Z9 (by omega)]
     refine ⟨_,rfl,⟨k + 1,c2,hlt,by push_cast;rfl,g2,?_⟩,by simp only;omega⟩
     refine g3.congr fun m => ?_
     rw [htk]
     constructor
     ·rintro (h1 | ⟨x,hx,i,j,h1,h2,h3⟩)
      ·exact .inl (.inl (.inl h1))
      ·rcases List.mem_append.1 hx with h4 | h4
       ·exact .inl (.inl (.inr ⟨x,h4,i,j,h1,h2,h3⟩))
       ·rw [YO] at h4;subst h4
        rcases h1 with rfl | rfl
        ·exact .inl (.inr ⟨j,h2,h3⟩)
        ·exact .inr ⟨i,h2,h3⟩
     ·rintro (((h1 | ⟨x,hx,h1⟩) | ⟨j,j1,j2⟩) | ⟨i,i1,i2⟩)
      ·exact .inl h1
      ·exact .inr ⟨x,Yf _ hx,h1⟩
      ·exact .inr ⟨_,Yk _ (List.mem_singleton.2 rfl),_,j,.inl rfl,j1,j2⟩
      ·exact .inr ⟨_,Yk _ (List.mem_singleton.2 rfl),i,_,.inr rfl,i1,i2⟩
   ·right
    obtain rfl:k = g.Odd.length:=by omega
    rw [ZQ (by omega),cond_false]
    rw [Yx] at hc;refine ⟨_,rfl,hcb,hc.congr fun m => ?_⟩
    constructor
    ·rintro (h1 | ⟨i,j,h1,h2,h3⟩)
     ·exact .inl h1
     ·rcases h1 with ⟨x,hx,hxi⟩ | ⟨x,hx,hxi⟩
      ·exact .inr ⟨x,hx,i,j,.inl hxi,h2,h3⟩
      ·exact .inr ⟨x,hx,i,j,.inr hxi,h2,h3⟩
    ·rintro (h1 | ⟨x,hx,i,j,h1,h2,h3⟩)
     ·exact .inl h1
     ·rcases h1 with h1 | h1
      ·exact .inr ⟨i,j,.inl ⟨x,hx,h1⟩,h2,h3⟩
      ·exact .inr ⟨i,j,.inr ⟨x,hx,h1⟩,h2,h3⟩) (0,b.1,b.2) ⟨0,b,YM _,rfl,hbb,hB.congr fun m => by simp⟩
 exact ⟨r,q1,q2⟩
theorem ZDC {g:Form} (h:Fit g) (h0:0 < g.Count) {up:Bool} {d i j:Int} (hp:CoreP g up d i j):∃ i' j',Z1C g up d i' j'∧j' - i' = j - i:=by
 obtain ⟨k,hk,hn⟩:=pigeon (g.Odd.map (·.Index) ++ g.Odd.map (fun x => x.Index - (j - i))) (fun k => i + g.Count * k) (fun a b hab => by
  have h4:g.Count * (a:Int) = g.Count * b:=by omega
  have:=Int.eq_of_mul_eq_mul_left (by omega) h4
  omega)
 rw [Yo,not_or] at hn
 have o1:¬ Z0F g (i + g.Count * k):=by
  rintro ⟨x,hx,e⟩;exact hn.1 (List.mem_map.2 ⟨x,hx,e⟩)
 have o2:¬ Z0F g (j + g.Count * k):=by
  rintro ⟨x,hx,e⟩;exact hn.2 (List.mem_map.2 ⟨x,hx,by rw [e];omega⟩)
 refine ⟨i + g.Count * k,j + g.Count * k,?_,by omega⟩
 obtain ⟨p1,p2,p3⟩:=hp
 unfold Z1C
 rw [Z34 h0 o1,Z34 h0 o2,Z66 h0,Z66 h0,(Z0i _ p1).1,(Z0i _ p1).2,(Z0i _ p2).1,(Z0i _ p2).2]
 refine ⟨by simpa using p1,by simpa using p2,?_⟩
 cases up
 ·simp only [Y6,if_false] at p3 ⊢;omega
 ·simp only [if_true] at p3 ⊢;omega
theorem ZEQ {g:Form} (h:Fit g) {up:Bool} {d i j:Int} (hi:¬ Z0F g i) (hj:¬ Z0F g j) (hp:Z1C g up d i j):0 < g.Count∧∃ i' j',0≤i'∧i' < g.Count∧CoreP g up d i' j'∧j' - i' = j - i:=by
 have hc:=h.shape.count
 have h0:0 < g.Count:=by
  by_cases h0:0 < g.Count
  ·exact h0
  ·exact absurd (Z1q hi (by omega)) hp.1
 refine ⟨h0,?_⟩
 unfold Z1C at hp
 rw [Z34 h0 hi,Z34 h0 hj] at hp
 obtain ⟨s,q,s0,s1,rfl,es⟩:=Z5D h0 i
 have ej:cs g j = (cs g (j - g.Count * q)).map (Z0B (q * g.Period)):=by
  have:=Z66 h0 (j - g.Count * q) q
  rwa [show j - g.Count * q + g.Count * q = j by omega] at this
 rw [es,ej] at hp
 obtain ⟨p1,p2,p3⟩:=hp
 have n1:cs g s ≠ []:=by simpa using p1
 have n2:cs g (j - g.Count * q) ≠ []:=by simpa using p2
 rw [(Z0i _ n1).1,(Z0i _ n1).2,(Z0i _ n2).1,(Z0i _ n2).2] at p3
 refine ⟨s,j - g.Count * q,s0,s1,⟨n1,n2,?_⟩,by omega⟩
 cases up
 ·simp only [Y6,if_false] at p3 ⊢;omega
 ·simp only [if_true] at p3 ⊢;omega
theorem far_eq {f g:Form} (hg:Z01 f = some g) (h:Fit g) (hb:0 < g.Count→¬ Bare g) {d:Int} (hd:ZE d) (up:Bool) :
  ∃ n b,ZX f d up = some (n,b,0)∧BigI n∧Best (fun m => ∃ i j,Z1C g up d i j∧m = sgU up * (j - i)) (sgU up * n,b):=by
 unfold ZX
 have hr:Z3o d = true:=by unfold Z3o;unfold ZE at hd;simp;omega
 rw [hr,YD,cond_false,made_eq hg h.lim h.few]
 simp only [Y0]
 have hy:(bif up then some (-1:Int) else some 1) = some (sgU up):=by unfold sgU;cases up <;> rfl
 rw [hy]
 simp only [Y0]
 obtain ⟨r1,a1,a2,a3⟩:=far_spots h hb hd up
 rw [a1]
 simp only [Y0]
 obtain ⟨r2,b1,b2,b3⟩:=far_odds h hb hd up a2 a3
 rw [b1]
 simp only [Y0]
 have hw:w64 (sgU up * r2.1) = sgU up * r2.1:=by
  have:=sg_big (up:=up) b2
  unfold BigI at this;exact Z9 (by omega)
 rw [hw]
 refine ⟨_,_,rfl,sg_big b2,?_⟩
 rw [sg_sg]
 refine b3.congr fun m => ?_
 constructor
 ·rintro ⟨i,j,p,e⟩
  by_cases hi:Z0F g i
  ·exact .inr ⟨i,j,.inl hi,p,e⟩
  ·by_cases hj:Z0F g j
   ·exact .inr ⟨i,j,.inr hj,p,e⟩
   ·obtain ⟨h0,i',j',i0,i1,hp,e'⟩:=ZEQ h hi hj p
    exact .inl ⟨i',j',i0,i1,hp,by rw [e,e']⟩
 ·rintro (⟨i,j,i0,i1,hp,e⟩ | ⟨i,j,ho,p,e⟩)
  ·obtain ⟨i',j',p,e'⟩:=ZDC h (by omega) hp
   exact ⟨i',j',p,by rw [e,e']⟩
  ·exact ⟨i,j,p,e⟩
end Go.Dn

namespace Go.Dn
open Go
def FewF (f:Form):Prop:=f.Core.length≤12∧f.Odd.length≤8
theorem Z9J.few {f:Form} (h:Z9J f):FewF f:=⟨h.1,h.2.1⟩
theorem ZCl {f:Form} (hl:Lim f) (hr:RightF f) (hsm:FewF f):∃ g,Z01 f = some g∧Fit g∧(0 < g.Count→¬ Bare g)∧ZK g = ZK f:=by
 have hs:=hr.shape
 obtain ⟨c,hc,hf⟩:=canon_Form_eq hl hs
 have hs':=Z87 hs hc
 have hr':=canonF_right hr hc
 have hcl:=coreOf_le hs hc
 refine ⟨_,hf,⟨canonF_lim hl hs hc,hs',hr'.turns,Yc hcl.2.2.1 hsm.1,Yc (Y0Y _ _) hsm.2⟩,?_,ZBC hs hc⟩
 intro h0 hb
 have ez:=Z8G hs hc
 have hz:∀ i,csz f i = []:=fun i => by rw [← ez];exact csz_bare hs' hb i
 rcases hc with ⟨h1,rfl⟩ | ⟨h1,h2,_⟩
 ·exact absurd h0 (by show ¬ (0:Int) < 0;omega)
 ·obtain ⟨i,i1,i2,i3⟩:=cs_some hs h1 h2 0
  have:=hz i
  rw [Z6C h2] at this;exact i3 this
structure DownS (f:Form) (d:Int) (r:Int × Bool):Prop where
 yes:r.2 = true→(∃ i j,Z1C f false d i j∧r.1 = j - i)∧∀ i j,Z1C f false d i j→j - i≤r.1
 no:r.2 = false→∀ i j,¬ Z1C f false d i j
structure UpS (f:Form) (d:Int) (r:Int × Bool):Prop where
 yes:r.2 = true→(∃ i j,Z1C f true d i j∧r.1 = j - i)∧∀ i j,Z1C f true d i j→r.1≤j - i
 no:r.2 = false→∀ i j,¬ Z1C f true d i j
theorem Z5J {f g:Form} (h:ZK g = ZK f) {up:Bool} {d i j:Int}:Z1C g up d i j ↔ Z1C f up d i j:=by unfold Z1C;rw [h]
theorem Z81 {f:Form} (hl:Lim f) (hr:RightF f) (hsm:FewF f) {d:Int} (hd:ZE d):∃ n b,Z4S f d = some (n,b,0)∧BigI n∧DownS f d (n,b):=by
 obtain ⟨g,g1,g2,g3,g4⟩:=ZCl hl hr hsm
 obtain ⟨n,b,e1,e2,e3⟩:=far_eq g1 g2 g3 hd false
 unfold Z4S
 rw [e1]
 refine ⟨n,b,rfl,e2,⟨fun hb => ?_,fun hb i j hp => ?_⟩⟩
 ·obtain ⟨⟨i,j,p,e⟩,hall⟩:=e3.yes hb
  simp only [sgU,Y6,if_false,Int.one_mul] at e hall;refine ⟨⟨i,j,(Z5J g4).1 p,e⟩,fun i' j' hp => ?_⟩
  exact hall _ ⟨i',j',(Z5J g4).2 hp,rfl⟩
 ·exact (e3.no hb).2 _ ⟨i,j,(Z5J g4).2 hp,rfl⟩
theorem Z7y {f:Form} (hl:Lim f) (hr:RightF f) (hsm:FewF f) {d:Int} (hd:ZE d):∃ n b,Z8X f d = some (n,b,0)∧BigI n∧UpS f d (n,b):=by
 obtain ⟨g,g1,g2,g3,g4⟩:=ZCl hl hr hsm
 obtain ⟨n,b,e1,e2,e3⟩:=far_eq g1 g2 g3 hd true
 unfold Z8X
 rw [e1]
 refine ⟨n,b,rfl,e2,⟨fun hb => ?_,fun hb i j hp => ?_⟩⟩
 ·obtain ⟨⟨i,j,p,e⟩,hall⟩:=e3.yes hb
  simp only [sgU,if_true] at e hall;refine ⟨⟨i,j,(Z5J g4).1 p,by simp only;omega⟩,fun i' j' hp => ?_⟩
  have:=hall _ ⟨i',j',(Z5J g4).2 hp,rfl⟩
  simp only;omega
 ·exact (e3.no hb).2 _ ⟨i,j,(Z5J g4).2 hp,rfl⟩
theorem ZC6 {f:Form} {d d' i j:Int} (h:Z1C f false d i j) (hd:d≤d'):Z1C f false d' i j:=by
 unfold Z1C at *
 simp only [Y6,if_false] at *
 exact ⟨h.1,h.2.1,by omega⟩
theorem up_mono {f:Form} {d d' i j:Int} (h:Z1C f true d i j) (hd:d'≤d):Z1C f true d' i j:=by
 unfold Z1C at *
 simp only [if_true] at *
 exact ⟨h.1,h.2.1,by omega⟩
noncomputable def bad (low high:Bound):Bool:=(((!(ZF low)) || (!(ZF high))) || (low.Inf == 1)) || (high.Inf == (-1))
structure RangeS (f:Form) (low high:Bound) (r:Range) (ok:Bool):Prop where
 none:ok = false→r = Range.mk 0 0 false false
 hi:ok = true→(r.HasHigh = true ↔ high.Inf = 0∧high.N≤1099511627776)
 lo:ok = true→(r.HasLow = true ↔ low.Inf = 0∧-1099511627776≤low.N)
 atH:ok = true→r.HasHigh = true→DownS f (max high.N (-1099511627776)) (r.High,true)
 atL:ok = true→r.HasLow = true→UpS f (min low.N 1099511627776) (r.Low,true)
 nhi:ok = true→r.HasHigh = false→r.High = 0
 nlo:ok = true→r.HasLow = false→r.Low = 0
 not:ok = false→(high.Inf = 0∧high.N≤1099511627776∧∀ i j,¬ Z1C f false (max high.N (-1099511627776)) i j)∨(low.Inf = 0∧-1099511627776≤low.N∧∀ i j,¬ Z1C f true (min low.N 1099511627776) i j)
theorem Z9C {f:Form} (hl:Lim f) (hr:RightF f) (hsm:FewF f) {low high:Bound} (h:bad low high = false):∃ r ok,Z0l f low high = some (r,ok,0)∧RangeS f low high r ok:=by
 unfold Z0l
 rw [show ((((!(ZF low)) || (!(ZF high))) || (low.Inf == 1)) || (high.Inf == (-1))) = false from h,cond_false]
 have t1:ZE (max high.N (-1099511627776))∨¬ (high.N≤1099511627776):=by unfold ZE;omega
 have t2:ZE (min low.N 1099511627776)∨¬ (-1099511627776≤low.N):=by unfold ZE;omega
 rw [iMax_eq,iMin_eq]
 -- the high end
 by_cases ch:high.Inf = 0∧high.N≤1099511627776
 ·have ech:((high.Inf == 0) && (decide (high.N≤1099511627776))) = true:=by simp [ch.1,ch.2]
  rw [ech,cond_true];obtain ⟨n,b,e1,e2,e3⟩:=Z81 hl hr hsm (t1.resolve_right fun h => h ch.2)
  rw [e1];simp only [Y0];cases b with
  | false =>
   simp only [Yj,cond_true,Y0,Jx.elim];exact ⟨_,_,rfl,fun _ => rfl,nofun,nofun,nofun,nofun,nofun,nofun,fun _ => .inl ⟨ch.1,ch.2,e3.no rfl⟩⟩
  | true =>
   simp only [YD,cond_false,Y0,Jx.elim]
   by_cases cl:low.Inf = 0∧-1099511627776≤low.N
   ·have ecl:((low.Inf == 0) && (decide (low.N ≥ (-1099511627776)))) = true:=by simp [cl.1];exact cl.2
    rw [ecl,cond_true];obtain ⟨m,c,f1,f2,f3⟩:=Z7y hl hr hsm (t2.resolve_right fun h => h cl.2)
    rw [f1];simp only [Y0];cases c with
    | false =>
     simp only [Yj,cond_true,Y0,Jx.elim];exact ⟨_,_,rfl,fun _ => rfl,nofun,nofun,nofun,nofun,nofun,nofun,fun _ => .inr ⟨cl.1,cl.2,f3.no rfl⟩⟩
    | true =>
     simp only [YD,cond_false,Y0,Jx.elim];exact ⟨_,_,rfl,nofun,fun _ => ⟨fun _ => ch,fun _ => rfl⟩,fun _ => ⟨fun _ => cl,fun _ => rfl⟩,fun _ _ => e3,fun _ _ => f3,fun _ h => (by cases h),fun _ h => (by cases h),nofun⟩
   ·have ecl:((low.Inf == 0) && (decide (low.N ≥ (-1099511627776)))) = false:=by
     apply Bool.eq_false_iff.2;intro h;simp at h;exact cl ⟨h.1,h.2⟩
    rw [ecl,cond_false];simp only [Y0,Jx.elim];exact ⟨_,_,rfl,nofun,fun _ => ⟨fun _ => ch,fun _ => rfl⟩,fun _ => ⟨fun h => (by cases h),fun h => absurd h cl⟩,fun _ _ => e3,fun _ h => (by cases h),fun _ h => (by cases h),fun _ _ => rfl,nofun⟩
 ·have ech:((high.Inf == 0) && (decide (high.N≤1099511627776))) = false:=by
   apply Bool.eq_false_iff.2;intro h;simp at h;exact ch h
  rw [ech,cond_false];simp only [Y0,Jx.elim]
  by_cases cl:low.Inf = 0∧-1099511627776≤low.N
  ·have ecl:((low.Inf == 0) && (decide (low.N ≥ (-1099511627776)))) = true:=by simp [cl.1];exact cl.2
   rw [ecl,cond_true];obtain ⟨m,c,f1,f2,f3⟩:=Z7y hl hr hsm (t2.resolve_right fun h => h cl.2)
   rw [f1];simp only [Y0];cases c with
   | false =>
    simp only [Yj,cond_true,Y0,Jx.elim];exact ⟨_,_,rfl,fun _ => rfl,nofun,nofun,nofun,nofun,nofun,nofun,fun _ => .inr ⟨cl.1,cl.2,f3.no rfl⟩⟩
   | true =>
    simp only [YD,cond_false,Y0,Jx.elim];exact ⟨_,_,rfl,nofun,fun _ => ⟨fun h => (by cases h),fun h => absurd h ch⟩,fun _ => ⟨fun _ => cl,fun _ => rfl⟩,fun _ h => (by cases h),fun _ _ => f3,fun _ _ => rfl,fun _ h => (by cases h),nofun⟩
  ·have ecl:((low.Inf == 0) && (decide (low.N ≥ (-1099511627776)))) = false:=by
    apply Bool.eq_false_iff.2;intro h;simp at h;exact cl ⟨h.1,h.2⟩
   rw [ecl,cond_false];simp only [Y0,Jx.elim];exact ⟨_,_,rfl,nofun,fun _ => ⟨fun h => (by cases h),fun h => absurd h ch⟩,fun _ => ⟨fun h => (by cases h),fun h => absurd h cl⟩,fun _ h => (by cases h),fun _ h => (by cases h),fun _ _ => rfl,fun _ _ => rfl,nofun⟩
def Near (f:Form) (m d:Int):Prop:=∃ i j,Z1C f false d i j∧m≤j - i
theorem Near.mono {f:Form} {m m' d d':Int} (h:Near f m d) (hm:m'≤m) (hd:d≤d'):Near f m' d':=by
 obtain ⟨i,j,h1,h2⟩:=h
 exact ⟨i,j,ZC6 h1 hd,by omega⟩
def farI (m:Int):Int:=min (max m (-4611686018427387904)) 4611686018427387904
theorem farI_eq (m:Int):iMin (iMax m (-4611686018427387904)) 4611686018427387904 = farI m:=by rw [iMax_eq,iMin_eq];rfl
def LowD (f:Form) (m d:Int):Prop:=-1099511627776≤d∧d≤1099511627776∧(∀ z,-1099511627776≤z→z < d→¬ Near f m z)∧(d < 1099511627776→Near f m d)
def boundD (d:Int):Bound:=if d = -1099511627776 then ⟨-1,0⟩ else ⟨0,d⟩
open Classical in
theorem ZBN {f:Form} (hl:Lim f) (hr:RightF f) (hsm:FewF f) (m:Int):∃ d,Z2q f m = some (boundD d)∧LowD f (farI m) d:=by
 unfold Z2q
 rw [farI_eq]
 obtain ⟨r,s1,s2,s3,s4,s5⟩:=ZCD (n:=2199023255553) (by omega) (by omega) (f:=fun z0 => Z10 (carry_asked.mk f (farI m)) z0) (p:=fun z => decide (Near f (farI m) (z - 1099511627776))) (by
   intro z z0 z1;unfold Z10;simp only;rw [Z9 (x:=z - 1099511627776) (by omega)]
   obtain ⟨n,b,e1,e2,e3⟩:=Z81 hl hr hsm (d:=z - 1099511627776) (by unfold ZE;omega)
   rw [e1];simp only [Y0,beq_self_eq_true,Bool.and_true,Y5];cases b with
   | false =>
    rw [Y0Q];symm;apply ZQ;rintro ⟨i,j,h1,h2⟩;exact e3.no rfl i j h1
   | true =>
    rw [Y0U,decide_eq_decide];obtain ⟨⟨i,j,h1,h2⟩,hall⟩:=e3.yes rfl
    constructor
    ·intro h;exact ⟨i,j,h1,by simp only at h2;omega⟩
    ·rintro ⟨i',j',h3,h4⟩;have:=hall i' j' h3
     simp only at this;omega) (by
   intro a b a0 hab hb hp;simp only [decide_eq_true_eq] at hp ⊢;exact hp.mono (YZ _) (by omega))
 rw [s1]
 simp only [Y0]
 rw [iMin_eq,Z9 (by omega)]
 refine ⟨min r 2199023255552 - 1099511627776,?_,by omega,by omega,?_,?_⟩
 ·unfold boundD
  by_cases h:min r 2199023255552 - 1099511627776 = -1099511627776
  ·rw [beq_t h,cond_true,if_pos h]
  ·rw [beq_f h,cond_false,if_neg h]
 ·intro z z0 z1;have:=s4 (z + 1099511627776) (by omega) (by omega)
  simp only [decide_eq_false_iff_not] at this
  rwa [show z + 1099511627776 - 1099511627776 = z by omega] at this
 ·intro hlt;have:=s5 r (YZ _) (by omega)
  simp only [decide_eq_true_eq] at this
  rwa [show min r 2199023255552 = r by omega]
theorem LowD.mono {f:Form} {m m' d d':Int} (h:LowD f m d) (h':LowD f m' d') (hm:m≤m'):d≤d':=by
 obtain ⟨a1,a2,a3,a4⟩:=h
 obtain ⟨b1,b2,b3,b4⟩:=h'
 by_cases hd:d≤d'
 ·exact hd
 ·exact absurd ((b4 (by omega)).mono hm (YZ _)) (a3 d' b1 (by omega))
def ZCH (d:Int):Bound:=if d = -1099511627776 then ⟨1,0⟩ else ⟨0,-d⟩
theorem ZCX {d:Int} (h : -1099511627776≤d∧d≤1099511627776):(Z8 (boundD d)).1 = ZCH d:=by
 unfold boundD ZCH
 by_cases h0:d = -1099511627776
 ·rw [if_pos h0,if_pos h0];decide
 ·rw [if_neg h0,if_neg h0];unfold Z8;have hr:ZF ⟨0,d⟩ = true:=rfl
  rw [hr,YD,cond_false];have hs:Z0U 0 d = (-d,0):=by
   unfold Z0U;rw [Z9 (x:=0 - d) (by omega)]
   have:((decide (0 - d < 0) != decide (d > 0)) && d != 0) = false:=by
    by_cases hp:d > 0
    ·rw [ZP hp,ZP (by omega)];rfl
    ·rw [ZQ hp,ZQ (by omega)];rfl
   rw [this,cond_false,show 0 - d = -d by omega]
  rw [hs]
  rfl
theorem carry_High_eq {f:Form} (hl:Lim f) (hr:RightF f) (hsm:FewF f) {n:Int} (hn:In64 n):∃ d,Z2m f n = some (ZCH d)∧LowD f (farI (-(max n (-4611686018427387904)))) d:=by
 unfold Z2m
 unfold In64 at hn
 rw [iMax_eq,Z9 (by omega),show 0 - max n (-4611686018427387904) = -(max n (-4611686018427387904)) by omega]
 obtain ⟨d,e1,e2⟩:=ZBN hl hr hsm (-(max n (-4611686018427387904)))
 rw [e1]
 exact ⟨d,by simp only [Y0];rw [ZCX ⟨e2.1,e2.2.1⟩],e2⟩
def goodB (x:Bound):Prop:=ZF x = true∧x.N≤1099511627776∧-1099511627776≤x.N
end Go.Dn

namespace Go.Dn
open Go
structure NearF0 (f:Form):Prop where
 lim:Lim f
 right:RightF f
 small:Z9J f
 per:f.Period≤200
 hull:∀ l ∈ f.Core,l ≠ []→-100≤fstT l∧lstT l≤100
 odd:∀ g ∈ f.Odd,-100≤g.Index∧g.Index≤100
theorem span_within {l:List Span} (h:RightL l):∀ s ∈ l,fstT l≤s.From∧s.From≤s.To∧s.To≤lstT l:=by
 induction l with
 | nil => intro s hs;cases hs
 | cons x l ih =>
  intro s hs;have h0:=h.ok 0 x rfl
  cases l with
  | nil =>
   rw [YO] at hs;subst hs;exact ⟨YZ _,h0.2.2,YZ _⟩
  | cons y l =>
   have h1:=h.gap 0 x y rfl rfl
   have e1:lstT (x :: y :: l) = lstT (y :: l):=by simp [lstT]
   have e2:fstT (y :: l) = y.From:=rfl
   have e3:fstT (x :: y :: l) = x.From:=rfl
   have hf:=Z1r h.tail (by simp)
   rw [e1,e3]
   rcases List.mem_cons.1 hs with rfl | hs
   ·exact ⟨YZ _,h0.2.2,by omega⟩
   ·have:=ih h.tail s hs
    exact ⟨by omega,this.2.1,this.2.2⟩
theorem NearF0.core {f:Form} (h:NearF0 f) (h0:0 < f.Count) {i:Int} (hi : -2000≤i∧i≤2000):∀ s ∈ cs f i,-500000≤s.From∧s.To≤500000∧s.From≤s.To:=by
 intro s hs
 obtain ⟨j,q,j0,j1,rfl,e⟩:=Z5D h0 i
 rw [e] at hs
 obtain ⟨s0,hs0,rfl⟩:=List.mem_map.1 hs
 have hr:=Z38 h.right.shape h0 j0 j1
 have hne:cs f j ≠ []:=Y0w hs0
 have hm:cs f j ∈ f.Core:=by
  rw [Z45 j0 j1];have:=h.right.shape.count
  have hj:j.toNat < f.Core.length:=by omega
  rw [YJ,Y2 hj];exact YE hj
 have h1:=span_within hr s0 hs0
 have h2:=h.hull _ hm hne
 have hc:=h.right.shape.count
 have hp:=h.right.shape.per
 have hp2:=h.per
 have hq : -2000≤q∧q≤2000:=by
  constructor
  ·by_cases hq : -2000≤q
   ·exact hq
   ·have:f.Count * q≤f.Count * -2001:=Yl (by omega) (by omega)
    have:f.Count * -2001≤j - 2001 - f.Count:=by
     have:1≤f.Count:=by omega
     omega
    omega
  ·by_cases hq:q≤2000
   ·exact hq
   ·have:f.Count * 2001≤f.Count * q:=Yl (by omega) (by omega)
    omega
 have b1:=Y01 hq.1 hp.1
 have b2:=Y01 hq.2 hp.1
 simp only [Z0B]
 omega
theorem NearF0.ZAI {f:Form} (h:NearF0 f) {i:Int} (hi:Z0F f i) : -100≤i∧i≤100:=by
 obtain ⟨g,hg,rfl⟩:=hi
 exact h.odd g hg
theorem NearF0.fits {f:Form} (h:NearF0 f) {i:Int} (hi : -2000≤i∧i≤2000):fits f i:=by
 intro s hs
 by_cases ho:Z0F f i
 ·obtain ⟨g,hg,rfl⟩:=ho
  rw [Z1c h.right.shape.inc hg] at hs;obtain ⟨k,hk⟩:=YC hs
  have:=(h.right.shape.odd g hg).1.ok k s hk
  exact ⟨this.1,this.2.1⟩
 ·by_cases h0:0 < f.Count
  ·rw [Z34 h0 ho] at hs;have:=h.core h0 hi s hs
   unfold ZE;omega
  ·rw [Z1q ho (by have:=h.right.shape.count;omega)] at hs;cases hs
theorem shift_to {f:Form} (h0:0 < f.Count) (i a:Int):∃ q,a≤i + f.Count * q∧i + f.Count * q < a + f.Count:=by
 refine ⟨-((i - a) / f.Count),?_⟩
 have e:=Yy (i - a) f.Count
 have e0:=Yh (i - a) (show f.Count ≠ 0 by omega)
 have e1:=Yt (i - a) h0
 rw [Int.mul_neg]
 omega
theorem NearF0.Z9U {f:Form} (h:NearF0 f) {i:Int} (hi:¬ Z0F f i) (hn:ZK f i ≠ []):0 < f.Count∧f.Count≤12∧cs f i ≠ []:=by
 have hc:=h.right.shape.count
 have hs:=h.small.1
 have h0:0 < f.Count:=by
  by_cases h0:0 < f.Count
  ·exact h0
  ·exact absurd (Z1q hi (by omega)) hn
 rw [Z34 h0 hi] at hn
 exact ⟨h0,by omega,hn⟩
theorem NearF0.turned {f:Form} (h:NearF0 f) (h0:0 < f.Count) {i q:Int} (hn:cs f i ≠ []) (ho:¬ Z0F f (i + f.Count * q)):ZK f (i + f.Count * q) ≠ []∧fstT (ZK f (i + f.Count * q)) = fstT (cs f i) + q * f.Period∧lstT (ZK f (i + f.Count * q)) = lstT (cs f i) + q * f.Period:=by
 rw [Z34 h0 ho,Z66 h0,(Z0i _ hn).1,(Z0i _ hn).2]
 exact ⟨by simpa using hn,rfl,rfl⟩
theorem NearF0.Z73 {f:Form} (h:NearF0 f) {i k:Int} (hik:i < k) (hi : -2000≤i∧i≤2000) (hk : -2000≤k∧k≤2000) (ni:ZK f i ≠ []) (nk:ZK f k ≠ []):lstT (ZK f i) < fstT (ZK f k) :=
 RightF.order h.lim h.right _ i k rfl hik (by unfold ZE;omega) (by unfold ZE;omega) (h.fits hi) (h.fits hk) ni nk
theorem NearF0.ZAB {f:Form} (h:NearF0 f) (h0:0 < f.Count) {i k:Int} (hik:i < k) (oi:¬ Z0F f i) (ok:¬ Z0F f k) (ni:ZK f i ≠ []) (nk:ZK f k ≠ []):lstT (ZK f i) < fstT (ZK f k):=by
 rw [Z34 h0 oi] at ni ⊢
 rw [Z34 h0 ok] at nk ⊢
 exact Z6a h.right.shape h.right.turns h0 hik ni nk
theorem NearF0.le_small {f:Form} (h:NearF0 f) {i:Int} (hi : -2000≤i∧i≤2000) (ni:ZK f i ≠ []):fstT (ZK f i)≤lstT (ZK f i) :=
 Z1r (Z71 h.right.shape (h.fits hi)) ni
theorem NearF0.order {f:Form} (h:NearF0 f) {i k:Int} (hik:i < k) (ni:ZK f i ≠ []) (nk:ZK f k ≠ []):lstT (ZK f i) < fstT (ZK f k):=by
 by_cases oi:Z0F f i
 ·have bi:=h.ZAI oi
  by_cases hk:k≤2000
  ·exact h.Z73 hik (by omega) (by omega) ni nk
  ·have ok:¬ Z0F f k:=fun o => by have:=h.ZAI o;omega
   obtain ⟨h0,h12,ck⟩:=h.Z9U ok nk
   obtain ⟨q,q1,q2⟩:=shift_to h0 k 900
   have oc:¬ Z0F f (k + f.Count * q):=fun o => by have:=h.ZAI o;omega
   obtain ⟨nc,c1,c2⟩:=h.turned h0 ck oc
   have o1:=h.Z73 (k:=k + f.Count * q) (by omega) (by omega) (by omega) ni nc
   have o2:=h.le_small (i:=k + f.Count * q) (by omega) nc
   have o3:=h.ZAB h0 (i:=k + f.Count * q) (k:=k) (by omega) oc ok nc nk
   omega
 ·by_cases ok:Z0F f k
  ·have bk:=h.ZAI ok
   by_cases hi : -2000≤i
   ·exact h.Z73 hik (by omega) (by omega) ni nk
   ·obtain ⟨h0,h12,ci⟩:=h.Z9U oi ni
    obtain ⟨q,q1,q2⟩:=shift_to h0 i (-900)
    have oc:¬ Z0F f (i + f.Count * q):=fun o => by have:=h.ZAI o;omega
    obtain ⟨nc,c1,c2⟩:=h.turned h0 ci oc
    have o1:=h.ZAB h0 (i:=i) (k:=i + f.Count * q) (by omega) oi oc ni nc
    have o2:=h.le_small (i:=i + f.Count * q) (by omega) nc
    have o3:=h.Z73 (i:=i + f.Count * q) (k:=k) (by omega) (by omega) (by omega) nc nk
    omega
  ·obtain ⟨h0,_,_⟩:=h.Z9U oi ni
   exact h.ZAB h0 hik oi ok ni nk
theorem NearF0.window {f:Form} (h:NearF0 f) {a j:Int} (ha : -900≤a∧a≤900) (hj:a≤j) (nj:ZK f j ≠ []):∃ k,a≤k∧k≤max (a + 30) 130∧k≤j∧ZK f k ≠ []:=by
 by_cases hw:j≤max (a + 30) 130
 ·exact ⟨j,hj,hw,YZ _,nj⟩
 ·have oj:¬ Z0F f j:=fun o => by have:=h.ZAI o;omega
  obtain ⟨h0,h12,cj⟩:=h.Z9U oj nj
  obtain ⟨q,q1,q2⟩:=shift_to h0 j (max a 101)
  have oj':¬ Z0F f (j + f.Count * q):=fun o => by have:=h.ZAI o;omega
  obtain ⟨b1,b2,b3⟩:=h.turned h0 cj oj'
  exact ⟨_,by omega,by omega,by omega,b1⟩
end Go.Dn

namespace Go.Dn
open Go
structure GapS (f:Form) (m:Int) (lo:Int→Prop) (b:Int × Bool):Prop where
 yes:b.2 = true→∃ i j,i + m≤j∧ZK f i ≠ []∧ZK f j ≠ []∧b.1 = fstT (ZK f j) - lstT (ZK f i)
 all:∀ i j,lo i→i + m≤j→ZK f i ≠ []→ZK f j ≠ []→b.2 = true∧b.1≤fstT (ZK f j) - lstT (ZK f i)
theorem ZCF {f:Form} (hl:Lim f):∃ b,ZZ f = some b∧(b = true→NearF0 f):=by
 unfold ZZ
 obtain ⟨b,e1,i1⟩:=Z9p hl
 rw [e1]
 cases b with
 | false => exact ⟨false,rfl,nofun⟩
 | true =>
  have hsm:=i1.1 rfl
  have hnl:¬ LongF f:=by unfold LongF;have:=hsm.1;have:=hsm.2.1;have:=hsm.2.2;omega
  simp only [Y0,YD,cond_false]
  rcases Z43 hl with ⟨h,_⟩ | ⟨_,hr,e2⟩ | ⟨_,_,e2⟩
  ·exact absurd h hnl
  ·rw [e2];simp only [Y0,bne_self_eq_false,Y0s]
   by_cases hp:f.Period > 200
   ·rw [ZP hp];exact ⟨false,rfl,nofun⟩
   rw [ZQ hp,cond_false];have hcl:=Z3L (b:=23) hl.core
   have hol:=Z3L (b:=31) hl.odd
   have l1:(loopO (ZZ.s0 f) 0 = some (.go ())∧∀ k l,f.Core[k]? = some l→(l ≠ []→-100≤fstT l∧lstT l≤100))∨(loopO (ZZ.s0 f) 0 = some (.ret false)∧¬ ∀ k l,f.Core[k]? = some l→(l ≠ []→-100≤fstT l∧lstT l≤100)) :=
    Z2C (l:=f.Core) (step:=ZZ.s0 f) (fun _ l => l ≠ []→-100≤fstT l∧lstT l≤100) (no:=.ret false) (yes:=.go ()) (fun k x hk _ => by
     obtain ⟨h1,h2⟩:=Z8p hk
     have hlx:=(hl.sets x (Y7 hk)).1
     unfold ZZ.s0;rw [ZP h2,cond_true,h1];simp only [Y0];rw [Z9T hlx];simp only [Y0];rw [Z9 (by omega)]
     by_cases hx:x = []
     ·rw [if_pos hx];exact .inl ⟨rfl,fun h => absurd hx h⟩
     ·rw [if_neg hx];simp only [Y0U]
      by_cases hb:fstT x < -100∨lstT x > 100
      ·have:(decide (fstT x < -100) || decide (lstT x > 100)) = true:=by simpa using hb
       rw [this];exact .inr ⟨rfl,fun h => by have:=h hx;omega⟩
      ·have:(decide (fstT x < -100) || decide (lstT x > 100)) = false:=by simp;omega
       rw [this];exact .inl ⟨rfl,fun _ => by omega⟩) (by unfold ZZ.s0;rw [ZQ (by omega)];rfl)
   rcases l1 with ⟨l1,l2⟩ | ⟨l1,_⟩
   ·rw [l1];simp only [Y0,Jx.elim];have m1:(loopO (ZZ.s1 f) 0 = some (.go ())∧∀ (k:Nat) (g:Granule),f.Odd[k]? = some g→(-100≤g.Index∧g.Index≤100))∨(loopO (ZZ.s1 f) 0 = some (.ret false)∧¬ ∀ (k:Nat) (g:Granule),f.Odd[k]? = some g→(-100≤g.Index∧g.Index≤100)) :=
     Z2C (l:=f.Odd) (step:=ZZ.s1 f) (fun _ (g:Granule) => -100≤g.Index∧g.Index≤100) (no:=.ret false) (yes:=.go ()) (fun k x hk _ => by
      obtain ⟨h1,h2⟩:=Z8p hk
      unfold ZZ.s1;rw [ZP h2,cond_true,h1];simp only [Y0];rw [Z9 (by omega)]
      by_cases hb:x.Index < -100∨x.Index > 100
      ·have:(decide (x.Index < -100) || decide (x.Index > 100)) = true:=by simpa using hb
       rw [this];exact .inr ⟨rfl,fun h => by omega⟩
      ·have:(decide (x.Index < -100) || decide (x.Index > 100)) = false:=by simp;omega
       rw [this];exact .inl ⟨rfl,by omega⟩) (by unfold ZZ.s1;rw [ZQ (by omega)];rfl)
    rcases m1 with ⟨m1,m2⟩ | ⟨m1,_⟩
    ·rw [m1];refine ⟨true,rfl,fun _ => ⟨hl,hr,hsm,by omega,fun l hm => ?_,fun g hm => ?_⟩⟩
     ·obtain ⟨k,hk⟩:=YC hm;exact l2 k l hk
     ·obtain ⟨k,hk⟩:=YC hm;exact m2 k g hk
    ·rw [m1];exact ⟨false,rfl,nofun⟩
   ·rw [l1];exact ⟨false,rfl,nofun⟩
  ·rw [e2];exact ⟨false,rfl,nofun⟩
end Go.Dn

namespace Go.Dn
open Go
theorem w64_in (x:Int):In64 (w64 x):=by unfold w64 In64;rw [Z5m];omega
theorem has_found {l:List Span} {t:Int} (hl:Len l):∃ b,Z7k l t = some b∧(b = true→∃ s ∈ l,s.From≤t∧t≤s.To):=by
 have hlen:(l.length:Int) < 4611686018427387904:=by have:=Z1S;unfold Len at hl;omega
 obtain ⟨r,h1,p,rfl,hp⟩:=Z0N (step:=ZR.s0 l t (fun z0 z1 => some (Z4a z0 z1)))
  (I:=fun s => ∃ i j:Nat,s = ((i:Int),(j:Int))∧i≤j∧j≤l.length)
  (fun s => (s.2 - s.1).toNat)
  (fun r => ∃ p:Nat,r = (p:Int)∧p≤l.length) (by
  rintro s ⟨i,j,rfl,hij,hj⟩;unfold ZR.s0
  by_cases hlt:i < j
  ·have hm:w64 ((IntKind.u64.wrap (w64 ((i:Int) + j))).fdiv (2 ^ 1)) = ((i + j) / 2:Nat):=by
    rw [Z9 (x:=(i:Int) + j) (by omega),Z4s,Y0E _ (by decide),Z9 (by omega)]
    omega
   have hml:(i + j) / 2 < l.length:=by omega
   simp only [hm];rw [ZP (show (i:Int) < j by omega),cond_true,at?_nat hml]
   simp only [Y0];refine .inl ?_
   by_cases hc:Z4a l[(i + j) / 2] t < 0
   ·rw [ZP hc];refine ⟨((((i + j) / 2 + 1:Nat):Int),(j:Int)),?_,⟨(i + j) / 2 + 1,j,rfl,by omega,hj⟩,by simp;omega⟩
    rw [Z9 (by omega)];simp
   ·rw [ZQ hc];exact ⟨((i:Int),(((i + j) / 2:Nat):Int)),by simp,⟨i,(i + j) / 2,rfl,by omega,by omega⟩,by simp;omega⟩
  ·exact .inr ⟨(i:Int),by rw [ZQ (show ¬ (i:Int) < j by omega)];rfl,i,rfl,by omega⟩) (0,(l.length:Int)) ⟨0,l.length,rfl,YM _,YB _⟩
 unfold Z7k ZR
 rw [h1]
 simp only [Y0]
 by_cases hlt:p < l.length
 ·rw [ZP (show (p:Int) < l.length by omega),cond_true,at?_nat hlt]
  simp only [Y0,Bool.and_true];refine ⟨_,rfl,fun h => ⟨l[p],YE hlt,?_⟩⟩
  simp only [Y9] at h;have h:=eq_of_beq h.1
  unfold Z4a at h
  by_cases q1:l[p].To < t
  ·rw [ZP q1] at h;simp at h
  ·by_cases q2:l[p].From > t
   ·rw [ZQ q1,ZP q2] at h;simp at h
   ·omega
 ·rw [ZQ (show ¬ (p:Int) < l.length by omega),cond_false]
  simp only [Y0,Bool.and_false];exact ⟨false,rfl,fun h => by cases h⟩
def ZA5 (f:Form):Form:=Form.mk f.Period f.Count f.Core []
theorem bareF_lim {f:Form} (h:Lim f):Lim (ZA5 f):=⟨h.core,h.sets,by simp [ZA5],by simp [ZA5],h.count,h.period⟩
theorem bareF_shape {f:Form} (h:Shape f):Shape (ZA5 f):=⟨h.count,h.zero,h.per,h.core,by simp [ZA5],by intro j k a b _ hj;simp [ZA5] at hj⟩
theorem place_tot {f:Form} (hl:Lim f) (t:Int):∃ r,ZO f t = some r∧In64 r.1:=by
 have hlen:(f.Core.length:Int) < 4611686018427387904:=by have:=Z1S;have:=hl.core;omega
 obtain ⟨r,h1,h2⟩:=Z0N (step:=ZO.s0 f t)
  (I:=fun s => (∃ k:Nat,s.2.2 = (k:Int)∧k≤f.Core.length)∧In64 s.1)
  (fun s => f.Core.length - s.2.2.toNat) (fun r => In64 r.1) (by
  rintro ⟨at',ok,idx⟩ ⟨⟨k,hk,hle⟩,hi⟩;simp only at hk hi;subst hk;unfold ZO.s0;simp only
  by_cases hlt:k < f.Core.length
  ·refine .inl ?_;rw [ZP (show (k:Int) < f.Core.length by omega),cond_true,at?_nat hlt]
   simp only [Y0];rw [Z9T (hl.sets _ (YE hlt)).1];simp only [Y0];have hw:w64 ((k:Int) + 1) = ((k + 1:Nat):Int):=by rw [Z9 (by omega)];push_cast;rfl
   by_cases hn:f.Core[k] = []
   ·rw [if_pos hn];exact ⟨_,rfl,⟨⟨k + 1,hw,hlt⟩,hi⟩,by simp only [hw];omega⟩
   ·rw [if_neg hn];simp only [YD,cond_false];unfold Z9a;rw [Z3F (w64_in _) hl.period];simp only [Y0];rw [Z9D]
    split
    ·simp only [Y0,Jx.elim];exact ⟨_,rfl,⟨⟨k + 1,hw,hlt⟩,w64_in _⟩,by simp only [hw];omega⟩
    ·simp only [Y0,Jx.elim];exact ⟨_,rfl,⟨⟨k + 1,hw,hlt⟩,hi⟩,by simp only [hw];omega⟩
  ·refine .inr ⟨(at',ok),?_,hi⟩;rw [ZQ (show ¬ (k:Int) < f.Core.length by omega),cond_false]) (0,false,0) ⟨⟨0,rfl,YM _⟩,by unfold In64;simp⟩
 refine ⟨r,?_,h2⟩
 unfold ZO
 rw [h1]
 rfl
theorem plain_tot {f:Form} (hl:Lim f) (hs:Shape f) (t:Int):∃ r,Z4 f t = some r∧(r.2 = true→ZE r.1):=by
 obtain ⟨x1,e1,i1⟩:=place_tot hl t
 unfold Z4
 rw [e1]
 simp only [Y0]
 cases hx:x1.2 with
 | false => exact ⟨(0,false),rfl,fun h => by cases h⟩
 | true =>
 simp only [YD,cond_false]
 have hlen:(f.Odd.length:Int) < 4611686018427387904:=by have:=Z1S;have:=hl.odd;omega
 obtain ⟨kv,e2,_⟩:=Z0N (step:=Z4.s0 f)
  (I:=fun s => ∃ k:Nat,s.1 = (k:Int)∧k≤f.Odd.length)
  (fun s => f.Odd.length - s.1.toNat) (fun _ => True) (by
  rintro ⟨idx,kv⟩ ⟨k,hk,hle⟩;simp only at hk;subst hk;unfold Z4.s0;simp only
  by_cases hlt:k < f.Odd.length
  ·have hw:w64 ((k:Int) + 1) = ((k + 1:Nat):Int):=by rw [Z9 (by omega)];push_cast;rfl
   rw [ZP (show (k:Int) < f.Odd.length by omega),cond_true,at?_nat hlt]
   simp only [Y0];exact .inl ⟨_,rfl,⟨k + 1,hw,hlt⟩,by simp only [hw];omega⟩
  ·exact .inr ⟨kv,by rw [ZQ (show ¬ (k:Int) < f.Odd.length by omega),cond_false],trivial⟩) (0,[]) ⟨0,rfl,YM _⟩
 rw [e2]
 simp only [Y0]
 have bl:=bareF_lim hl
 have bs:=bareF_shape hs
 obtain ⟨x3,e3,a3⟩:=Z3b bl bs (i:=w64 (x1.1 - 1)) (w64_in _)
 rw [show Form.mk f.Period f.Count f.Core [] = ZA5 f from rfl,e3]
 simp only [Y0]
 have tickA:∀ {i:Int} {r:Int × Bool},Above (ZA5 f) i r→r.2 = true→i < r.1∧ZE r.1:=fun h hr => ⟨(h.tick hr).1,(h.tick hr).2.1⟩
 obtain ⟨y,e4,h4⟩:=Z0N (step:=Z4.s1 f kv)
  (I:=fun s => (s.2.1 = true→ZE s.1)∧0≤s.2.2∧s.2.2≤2)
  (fun s => if s.2.1 = true then (1099511627777 - s.1).toNat + 1 else 0)
  (fun y => ∀ r,y = .ret r→r.2 = true→ZE r.1) (by
  rintro ⟨i,ok,by_⟩ ⟨hi,hb0,hb2⟩;simp only at hi hb0 hb2;unfold Z4.s1;simp only;rw [show Form.mk f.Period f.Count f.Core [] = ZA5 f from rfl]
  by_cases hc:ok = true∧by_ < 2
  ·obtain ⟨rfl,hb⟩:=hc
   have ti:=hi rfl
   rw [ZP hb];simp only [Y00,cond_true];obtain ⟨x5,e5,a5⟩:=Z3b bl bs (i:=i) (Z2x ti)
   have go:∀ b':Int,0≤b'→b'≤2→∃ s':Int × Bool × Int,(some (Sum.inl (x5.1,x5.2,b')):Option ((Int × Bool × Int) ⊕ Jx Unit (Int × Bool))) = some (.inl s')∧((s'.2.1 = true→ZE s'.1)∧0≤s'.2.2∧s'.2.2≤2) ∧
     (if s'.2.1 = true then (1099511627777 - s'.1).toNat + 1 else 0) < (1099511627777 - i).toNat + 1:=fun b' q1 q2 => by
    refine ⟨_,rfl,⟨fun h => (tickA a5 h).2,q1,q2⟩,?_⟩
    simp only
    split
    ·rename_i h;have:=tickA a5 h
     have t2:=this.2
     unfold ZE at t2 ti;omega
    ·omega
   obtain ⟨g,hg⟩ : ∃ g,Z0g (ZA5 f) i = some g:=⟨_,Z5j bl bs (Z2x ti)⟩
   rw [hg];simp only [Y0,if_true];have hwb:w64 (by_ + 1) = by_ + 1:=Z9 (by omega)
   rw [hwb];cases hgc:(g.2 != 0) with
   | true =>
    simp only [cond_true,Y0,Jx.elim];rw [e5];simp only [Y0];exact .inl (go _ (by omega) (by omega))
   | false =>
    simp only [cond_false];cases hm:(mget kv i == 0) with
    | true =>
     simp only [cond_true,Y0,Jx.elim];exact .inr ⟨_,rfl,fun r hr _ => by cases hr;exact ti⟩
    | false =>
     simp only [cond_false,Y0,Jx.elim];rw [e5];simp only [Y0];exact .inl (go _ hb0 hb2)
  ·have:(ok && decide (by_ < 2)) = false:=by
    cases ok with
    | false => rfl
    | true => rw [ZQ (fun h => hc ⟨rfl,h⟩)];rfl
   rw [this,cond_false];exact .inr ⟨_,rfl,fun r hr => by cases hr⟩) (x3.1,x3.2,0) ⟨fun h => (tickA a3 h).2,by simp,by simp⟩
 rw [e4]
 simp only [Y0]
 cases y with
 | ret r => exact ⟨r,rfl,h4 r rfl⟩
 | go u => exact ⟨(0,false),rfl,fun h => by cases h⟩
theorem nearest_tot {f:Form} (hl:Lim f) (hs:Shape f) (t:Int):∃ r,ZI f t = some r∧(r.2 = true→ZE r.1):=by
 obtain ⟨x1,e1,i1⟩:=plain_tot hl hs (iMax (iMin t 1099511627777) (-1099511627777))
 have hlen:(f.Odd.length:Int) < 4611686018427387904:=by have:=Z1S;have:=hl.odd;omega
 obtain ⟨r,e2,h2⟩:=Z0N (step:=ZI.s0 f t)
  (I:=fun s => (∃ k:Nat,s.2.2 = (k:Int)∧k≤f.Odd.length)∧(s.2.1 = true→ZE s.1))
  (fun s => f.Odd.length - s.2.2.toNat) (fun r => r.2 = true→ZE r.1) (by
  rintro ⟨i,ok,idx⟩ ⟨⟨k,hk,hle⟩,hi⟩;simp only at hk hi;subst hk;unfold ZI.s0;simp only
  by_cases hlt:k < f.Odd.length
  ·have hw:w64 ((k:Int) + 1) = ((k + 1:Nat):Int):=by rw [Z9 (by omega)];push_cast;rfl
   have hm:f.Odd[k] ∈ f.Odd:=YE hlt
   rw [ZP (show (k:Int) < f.Odd.length by omega),cond_true,at?_nat hlt]
   simp only [Y0];obtain ⟨g,hg⟩ : ∃ g,Z1P f.Odd[k].Ticks = some g:=⟨_,Z9T (hl.ticks _ hm).2.1⟩
   rw [hg];simp only [Y0];refine .inl ?_;rw [Z9D]
   split
   ·simp only [Y0];exact ⟨_,rfl,⟨⟨k + 1,hw,hlt⟩,fun _ => (hs.odd _ hm).2⟩,by simp only [hw];omega⟩
   ·simp only [Y0];exact ⟨_,rfl,⟨⟨k + 1,hw,hlt⟩,hi⟩,by simp only [hw];omega⟩
  ·exact .inr ⟨(i,ok),by rw [ZQ (show ¬ (k:Int) < f.Odd.length by omega),cond_false],hi⟩) (x1.1,x1.2,0) ⟨⟨0,rfl,YM _⟩,i1⟩
 refine ⟨r,?_,h2⟩
 unfold ZI
 rw [e1]
 simp only [Y0]
 rw [e2]
 rfl
def Bears (f:Form) (i t:Int):Prop:=ZE i∧fits f i∧∃ s ∈ ZK f i,s.From≤t∧t≤s.To
theorem ZDm {f:Form} (hl:Lim f) (hs:Shape f) (t:Int):∃ r,Z7E f t = some r∧(r.2 = true→Bears f r.1 t)∧(r.2 = false→r.1 = 0):=by
 obtain ⟨x1,e1,i1⟩:=nearest_tot hl hs t
 unfold Z7E Z9g
 rw [e1]
 simp only [Y0]
 cases hx:x1.2 with
 | false => exact ⟨(0,false),rfl,(fun h => by cases h),fun _ => rfl⟩
 | true =>
 have ti:=i1 hx
 simp only [YD,cond_false]
 rw [Z5j hl hs (Z2x ti)]
 simp only [Y0]
 by_cases hf:ZE x1.1∧fits f x1.1
 ·rw [if_pos hf];obtain ⟨b,e2,h2⟩:=has_found (l:=ZK f x1.1) (t:=t) (Z9c hl hs _)
  rw [e2];simp only [Y0];cases b with
  | false => exact ⟨(0,false),rfl,(fun h => by cases h),fun _ => rfl⟩
  | true => exact ⟨(x1.1,true),rfl,fun _ => ⟨hf.1,hf.2,h2 rfl⟩,(fun h => by cases h)⟩
 ·rw [if_neg hf];obtain ⟨b,e2,h2⟩:=has_found (l:=[]) (t:=t) (by unfold Len;simp)
  rw [e2];simp only [Y0];cases b with
  | false => exact ⟨(0,false),rfl,(fun h => by cases h),fun _ => rfl⟩
  | true => obtain ⟨s,hs,_⟩:=h2 rfl;cases hs
theorem distance_eq {f:Form} (hl:Lim f) (hs:Shape f) (a b:Int):∃ x y,Z7E f a = some x∧Z7E f b = some y∧(x.2 = true→Bears f x.1 a)∧(y.2 = true→Bears f y.1 b) ∧
  Z0n f a b = some (if x.2 = true∧y.2 = true then (y.1 - x.1,true) else (0,false)):=by
 obtain ⟨x,e1,h1,_⟩:=ZDm hl hs a
 obtain ⟨y,e2,h2,_⟩:=ZDm hl hs b
 refine ⟨x,y,e1,e2,h1,h2,?_⟩
 unfold Z0n
 rw [e1]
 simp only [Y0]
 cases hx:x.2 with
 | false => simp
 | true =>
 simp only [YD,cond_false]
 rw [e2]
 simp only [Y0]
 cases hy:y.2 with
 | false => simp
 | true =>
  have tx:=(h1 hx).1
  have ty:=(h2 hy).1
  unfold ZE at tx ty;rw [Z9 (by omega)]
  simp
theorem Bears.ends {f:Form} (hs:Shape f) {i t:Int} (h:Bears f i t):ZK f i ≠ []∧fstT (ZK f i)≤t∧t≤lstT (ZK f i)∧ZE t:=by
 obtain ⟨h1,h2,s,h3,h4,h5⟩:=h
 have hr:=Z71 hs h2
 have hn:ZK f i ≠ []:=fun e => by rw [e] at h3;cases h3
 obtain ⟨k,hk,he⟩:=Y0G h3
 have hlt:=hk
 have key:fstT (ZK f i)≤s.From∧s.To≤lstT (ZK f i):=by
  have h0:∀ (l:List Span),RightL l→∀ (s:Span),s ∈ l→fstT l≤s.From∧s.To≤lstT l:=by
   intro l
   induction l with
   | nil => intro _ s hs;cases hs
   | cons a l ih =>
    intro hr s hs;have ha:=hr.ok 0 a rfl
    have e1:fstT (a :: l) = a.From:=rfl
    cases l with
    | nil =>
     rw [YO] at hs;subst hs;exact ⟨by rw [e1];omega,by show s.To≤s.To;omega⟩
    | cons b l =>
     have hg:=hr.gap 0 a b rfl rfl
     have e2:lstT (a :: b :: l) = lstT (b :: l):=by unfold lstT;rw [List.getLast?_cons_cons]
     have hrt:=hr.tail
     rcases List.mem_cons.1 hs with rfl | hs
     ·have:=ih hrt b (by simp)
      have hb:=hrt.ok 0 b rfl
      refine ⟨by rw [e1];omega,by rw [e2];omega⟩
     ·have:=ih hrt s hs
      have e3:fstT (b :: l) = b.From:=rfl
      rw [e3] at this;refine ⟨by rw [e1];omega,by rw [e2];exact this.2⟩
  exact h0 _ hr s h3
 have hl:=Z5e hr hn
 unfold ZE at *
 exact ⟨hn,by omega,by omega,by omega⟩
end Go.Dn

namespace Go.Dn
open Go
section
variable {f:Form} {i k x y:Int}
theorem pair_dn (hs:Shape f) (hx:Bears f i x) (hy:Bears f k y):Z1C f false (y - x) i k:=by
 obtain ⟨a1,a2,a3,_⟩:=hx.ends hs
 obtain ⟨b1,b2,b3,_⟩:=hy.ends hs
 refine ⟨a1,b1,?_⟩
 simp only [Y6,if_false]
 omega
theorem pair_up (hs:Shape f) (hx:Bears f i x) (hy:Bears f k y):Z1C f true (y - x) i k:=by
 obtain ⟨a1,a2,a3,_⟩:=hx.ends hs
 obtain ⟨b1,b2,b3,_⟩:=hy.ends hs
 refine ⟨a1,b1,?_⟩
 simp only [if_true]
 omega
theorem low_sound {m d:Int} (hs:Shape f) (hx:Bears f i x) (hy:Bears f k y) (hd:LowD f (farI m) d) (hm:m≤k - i):d = -1099511627776∨d≤y - x:=by
 by_cases h1:d = -1099511627776
 ·exact .inl h1
 ·right
  apply Classical.byContradiction;intro hn;have ti:=hx.1
  have tk:=hy.1
  unfold ZE at ti tk;have near:Near f (farI m) (y - x):=⟨i,k,pair_dn hs hx hy,by unfold farI;omega⟩
  have:=hd.1
  exact hd.2.2.1 (max (y - x) (-1099511627776)) (by omega) (by omega) (near.mono (YZ _) (by omega))
theorem ticks_eq (hl:Lim f) (hr:RightF f) (hsm:Z9J f) {r:Range} (ho:r.ok):∃ lo hi,Z1g f r = some (lo,hi) ∧
  (lo = ⟨-1,0⟩∧r.HasLow = false∨∃ d,lo = boundD d∧LowD f (farI r.Low) d∧r.HasLow = true) ∧
  (hi = ⟨1,0⟩∧r.HasHigh = false∨∃ d,hi = ZCH d∧LowD f (farI (-(max r.High (-4611686018427387904)))) d∧r.HasHigh = true):=by
 obtain ⟨d1,e1,l1⟩:=ZBN hl hr hsm.few r.Low
 obtain ⟨d2,e2,l2⟩:=carry_High_eq hl hr hsm.few (n:=r.High) (by have:=ho.2.1;rw [ZAr] at this;exact this)
 unfold Z1g
 rw [e1,e2]
 simp only [Y0]
 cases h1:r.HasLow <;> cases h2:r.HasHigh <;> simp only [cond_true,cond_false,Y0]
 ·exact ⟨_,_,rfl,.inl ⟨rfl,trivial⟩,.inl ⟨rfl,trivial⟩⟩
 ·exact ⟨_,_,rfl,.inl ⟨rfl,trivial⟩,.inr ⟨d2,rfl,l2,trivial⟩⟩
 ·exact ⟨_,_,rfl,.inr ⟨d1,rfl,l1,trivial⟩,.inl ⟨rfl,trivial⟩⟩
 ·exact ⟨_,_,rfl,.inr ⟨d1,rfl,l1,trivial⟩,.inr ⟨d2,rfl,l2,trivial⟩⟩
theorem range_sound (hl:Lim f) (hr:RightF f) (hsm:Z9J f) {low high:Bound} (hb:bad low high = false) (hx:Bears f i x) (hy:Bears f k y) (h1:low.Inf = 0→low.N≤y - x) (h2:high.Inf = 0→y - x≤high.N) :
  ∃ rr,Z0l f low high = some (rr,true,0)∧Z1m rr (k - i) = true:=by
 obtain ⟨rr,ok,e,s⟩:=Z9C hl hr hsm.few hb
 have pd:=pair_dn hr.shape hx hy
 have pu:=pair_up hr.shape hx hy
 cases ok with
 | false =>
  exfalso
  rcases s.not rfl with ⟨q1,q2,q3⟩ | ⟨q1,q2,q3⟩
  ·exact q3 i k (ZC6 pd (by have:=h2 q1;omega))
  ·exact q3 i k (up_mono pu (by have:=h1 q1;omega))
 | true =>
  refine ⟨rr,e,?_⟩;unfold Z1m;simp only [Y9,Yn,YQ,decide_eq_true_eq];refine ⟨?_,?_⟩
  ·cases hh:rr.HasLow with
   | false => exact .inl rfl
   | true =>
    obtain ⟨q1,q2⟩:=(s.lo rfl).1 hh
    exact .inr (((s.atL rfl hh).yes rfl).2 i k (up_mono pu (by have:=h1 q1;omega)))
  ·cases hh:rr.HasHigh with
   | false => exact .inl rfl
   | true =>
    obtain ⟨q1,q2⟩:=(s.hi rfl).1 hh
    exact .inr (((s.atH rfl hh).yes rfl).2 i k (ZC6 pd (by have:=h2 q1;omega)))
end
end Go.Dn

namespace Go.Dn
open Go
end Go.Dn

namespace Go.Dn
open Go
theorem ZAc {α:Type} {l:List α} {p:α→Bool} {step:Int→Option (Int ⊕ Jx Unit Int)} (hl:(l.length:Int) < 4611686018427387904)
  (hstep:∀ (k:Nat) (hk:k < l.length),step (k:Int) = if p l[k] = true then some (.inr (.ret (k:Int))) else some (.inl (w64 ((k:Int) + 1)))) (hend:step (l.length:Int) = some (.inr (.go ()))) :
  (loopO step 0 = some (.go ())∧∀ x ∈ l,p x = false)∨(∃ k:Nat,loopO step 0 = some (.ret (k:Int))∧∃ x ∈ l,p x = true):=by
 obtain ⟨r,h1,h2⟩:=Z0N (step:=step) (I:=fun s => ∃ k:Nat,s = (k:Int)∧k≤l.length∧∀ j (hj:j < l.length),j < k→p l[j] = false) (fun s => l.length - s.toNat)
  (fun r => (r = .go ()∧∀ x ∈ l,p x = false)∨∃ k:Nat,r = .ret (k:Int)∧∃ x ∈ l,p x = true) (by
  rintro s ⟨k,rfl,hk,hj⟩
  by_cases hlt:k < l.length
  ·rw [hstep k hlt]
   by_cases hp:p l[k] = true
   ·rw [if_pos hp];exact .inr ⟨_,rfl,.inr ⟨k,rfl,_,YE hlt,hp⟩⟩
   ·rw [if_neg hp];refine .inl ⟨_,rfl,⟨k + 1,by rw [Z9 (by omega)];push_cast;rfl,hlt,fun j hjl hjk => ?_⟩,by rw [Z9 (by omega)];omega⟩
    rcases YI j k with h | h
    ·exact hj j hjl h
    ·have:j = k:=by omega
     subst this
     simpa using hp
  ·have:k = l.length:=by omega
   subst this;refine .inr ⟨_,hend,.inl ⟨rfl,fun x hx => ?_⟩⟩
   obtain ⟨j,hjl,rfl⟩:=Y0G hx
   exact hj j hjl hjl) 0 ⟨0,rfl,YM _,fun j _ h => by omega⟩
 rcases h2 with ⟨rfl,h⟩ | ⟨k,rfl,h⟩
 ·exact .inl ⟨h1,h⟩
 ·exact .inr ⟨k,h1,h⟩
theorem Z5t {l:List Form} {f:Form→Option Bool} {p:Form→Bool} (hl:(l.length:Int) < 4611686018427387904) (hf:∀ x ∈ l,f x = some (p x)):∃ b,Zt l f = some b∧(b = true ↔ ∃ x ∈ l,p x = true):=by
 unfold Zt ZN
 rcases ZAc (l:=l) (p:=p) (step:=ZN.s0 l f) hl (fun k hk => by
  unfold ZN.s0;rw [ZP (show (k:Int) < l.length by omega),cond_true,at?_nat hk]
  simp only [Y0];rw [hf _ (YE hk)];simp only [Y0,Z9D]) (by
  unfold ZN.s0;rw [ZQ (by omega),cond_false]) with ⟨e,h⟩ | ⟨k,e,h⟩
 ·rw [e];refine ⟨false,rfl,?_⟩;simp only [Y6,false_iff,not_exists,not_and,Yw];exact h
 ·rw [e];simp only [Y0,Jx.elim];exact ⟨true,by rw [ZP (show (k:Int) ≥ 0 by omega)],by simpa using h⟩
theorem Z6q {l:List Con} {f:Con→Option Bool} {p:Con→Bool} (hl:(l.length:Int) < 4611686018427387904) (hf:∀ x ∈ l,f x = some (p x)):∃ b,Z02 l f = some b∧(b = true ↔ ∃ x ∈ l,p x = true):=by
 unfold Z02 ZT
 rcases ZAc (l:=l) (p:=p) (step:=ZT.s0 l f) hl (fun k hk => by
  unfold ZT.s0;rw [ZP (show (k:Int) < l.length by omega),cond_true,at?_nat hk]
  simp only [Y0];rw [hf _ (YE hk)];simp only [Y0,Z9D]) (by
  unfold ZT.s0;rw [ZQ (by omega),cond_false]) with ⟨e,h⟩ | ⟨k,e,h⟩
 ·rw [e];refine ⟨false,rfl,?_⟩;simp only [Y6,false_iff,not_exists,not_and,Yw];exact h
 ·rw [e];simp only [Y0,Jx.elim];exact ⟨true,by rw [ZP (show (k:Int) ≥ 0 by omega)],by simpa using h⟩
theorem ZDd {l:List Int} {p:Int→Bool} (hl:(l.length:Int) < 4611686018427387904):∃ b,Z0f l (fun z => some (p z)) = some b∧(b = true ↔ ∃ x ∈ l,p x = true):=by
 unfold Z0f Zk
 rcases ZAc (l:=l) (p:=p) (step:=Zk.s0 l (fun z => some (p z))) hl (fun k hk => by
  unfold Zk.s0;rw [ZP (show (k:Int) < l.length by omega),cond_true,at?_nat hk]
  simp only [Y0,Z9D]) (by
  unfold Zk.s0;rw [ZQ (by omega),cond_false]) with ⟨e,h⟩ | ⟨k,e,h⟩
 ·rw [e];refine ⟨false,rfl,?_⟩;simp only [Y6,false_iff,not_exists,not_and,Yw];exact h
 ·rw [e];simp only [Y0,Jx.elim];exact ⟨true,by rw [ZP (show (k:Int) ≥ 0 by omega)],by simpa using h⟩
structure RightN (n:Net):Prop where
 vars:0≤n.Vars∧n.Vars≤24
 forms:∀ f ∈ n.Forms,Lim f∧RightF f
 cons:∀ c ∈ n.Cons,(0≤c.X∧c.X < n.Vars)∧(0≤c.Y∧c.Y < n.Vars)∧(0≤c.Form∧c.Form < n.Forms.length)
 few:n.Cons.length≤200
theorem Z2N {i m:Int}:Z0c i m = true ↔ 0≤i∧i < m:=by
 unfold Z0c
 simp
theorem net_lim {n:Net} (h:n.ok):(∀ f ∈ n.Forms,Lim f)∧(n.Forms.length:Int) < 4611686018427387904∧(n.Cons.length:Int) < 4611686018427387904:=by
 obtain ⟨_,h2,h3⟩:=h
 refine ⟨fun f hf => Form.lim (h2.2 f hf),?_,?_⟩
 ·have:=h2.1;have:=Z1S;omega
 ·have:=h3.1;have:=Z1S;omega
theorem tag_Right_eq {n:Net} (hn:n.ok):∃ e,Z1a n = some e∧(e = 0→RightN n):=by
 obtain ⟨hf,l1,l2⟩:=net_lim hn
 unfold Z1a
 cases c1:Z0c n.Vars 25 with
 | false => exact ⟨230,rfl,fun h => absurd h (by decide)⟩
 | true =>
 simp only [YD,cond_false]
 cases c2:decide ((n.Forms.length:Int) > 20) with
 | true => exact ⟨230,rfl,fun h => absurd h (by decide)⟩
 | false =>
 simp only [cond_false,Y0]
 cases c3:decide ((n.Cons.length:Int) > 200) with
 | true => exact ⟨230,rfl,fun h => absurd h (by decide)⟩
 | false =>
 simp only [cond_false]
 have hfr:∀ f ∈ n.Forms,Z1D f = some ((Zm f).getD 0 != 0):=fun f hm => by
  unfold Z1D
  rcases Z43 (hf f hm) with ⟨q,h⟩ | ⟨q,r,h⟩ | ⟨q,r,h⟩ <;> rw [h] <;> rfl
 obtain ⟨b1,e1,i1⟩:=Z5t (l:=n.Forms) (f:=fun z0 => Z1D z0) (p:=fun f => (Zm f).getD 0 != 0) l1 hfr
 obtain ⟨b2,e2,i2⟩:=Z6q (l:=n.Cons) (f:=fun z0 => some (Z0t z0 n)) (p:=fun c => Z0t c n) l2 (fun _ _ => rfl)
 rw [e1]
 simp only [Y0]
 cases b1 with
 | true => exact ⟨230,rfl,fun h => absurd h (by decide)⟩
 | false =>
 simp only [cond_false]
 rw [e2]
 simp only [Y0]
 cases b2 with
 | true => exact ⟨230,rfl,fun h => absurd h (by decide)⟩
 | false =>
 refine ⟨0,rfl,fun _ => ?_⟩
 have v:=Z2N.1 c1
 refine ⟨by omega,fun f hm => ⟨hf f hm,?_⟩,fun c hm => ?_,by have:=of_decide_eq_false c3;omega⟩
 ·apply Classical.byContradiction;intro hnr;have:(false:Bool) = true:=i1.2 ⟨f,hm,by
   rcases Z43 (hf f hm) with ⟨q,h⟩ | ⟨q,r,h⟩ | ⟨q,r,h⟩
   ·rw [h];rfl
   ·exact absurd r hnr
   ·rw [h];rfl⟩
  cases this
 ·cases hc:Z0t c n with
  | true => have:=i2.2 ⟨c,hm,hc⟩;cases this
  | false =>
   unfold Z0t Z3g at hc;simp only [Bool.not_eq_false',Y9] at hc;exact ⟨Z2N.1 hc.1.1.1,Z2N.1 hc.1.1.2,Z2N.1 hc.1.2⟩
theorem few_eq {n:Net} (hn:n.ok):∃ b,Zq n = some b∧(b = true→RightN n∧n.Cons.length≤8∧n.Vars≤8):=by
 obtain ⟨hf,l1,l2⟩:=net_lim hn
 unfold Zq
 cases c1:((decide ((n.Forms.length:Int) > 4) || decide ((n.Cons.length:Int) > 8)) || decide (n.Vars > 8)) with
 | true => exact ⟨false,rfl,nofun⟩
 | false =>
 simp only [Bool.or_eq_false_iff,decide_eq_false_iff_not] at c1
 simp only [cond_false]
 obtain ⟨r,e1,_⟩:=Z0N (step:=Zq.s0 n) (I:=fun s => ∃ k:Nat,s = (k:Int)∧k≤n.Forms.length) (fun s => n.Forms.length - s.toNat) (fun r => r = .go ()∨r = .ret false) (by
  rintro s ⟨k,rfl,hk⟩;unfold Zq.s0
  by_cases hlt:k < n.Forms.length
  ·rw [ZP (show (k:Int) < n.Forms.length by omega),cond_true,at?_nat hlt]
   simp only [Y0];obtain ⟨b,e,_⟩:=ZCF (hf _ (YE hlt))
   rw [e];simp only [Y0];cases b with
   | false => exact .inr ⟨_,rfl,.inr rfl⟩
   | true => exact .inl ⟨_,rfl,⟨k + 1,by rw [Z9 (by omega)];push_cast;rfl,hlt⟩,by rw [Z9 (by omega)];omega⟩
  ·rw [ZQ (show ¬ (k:Int) < n.Forms.length by omega),cond_false]
   exact .inr ⟨_,rfl,.inl rfl⟩) 0 ⟨0,rfl,YM _⟩
 rw [e1]
 simp only [Y0]
 rename_i hr
 rcases hr with rfl | rfl
 ·simp only [Jx.elim];obtain ⟨e,e2,h2⟩:=tag_Right_eq hn
  rw [e2];simp only [Y0];refine ⟨_,rfl,fun h => ⟨h2 (eq_of_beq h),?_,?_⟩⟩ <;> omega
 ·exact ⟨false,rfl,nofun⟩
def badFrom (m:Con→Bool):List Con→Nat→List Int
 | [],_ => []
 | c :: l,j => if m c = true then badFrom m l (j + 1) else (j:Int) :: badFrom m l (j + 1)
section
variable {n:Net} {ts:List Int} {m:Con→Bool}
theorem holding_eq (hlen:n.Cons.length≤200) (h:∀ c ∈ n.Cons,Z5U n c ts = some (m c)):Z14 n ts (Z3K Z09.b0) ((),0) = some ((),if ∀ c ∈ n.Cons,m c = true then 0 else 1):=by
 unfold Z14
 obtain ⟨r,e,hr⟩:=Z0N (step:=Z14.s0 n ts (Z3K Z09.b0)) (I:=fun s => ∃ k:Nat,s = ((k:Int),((),0))∧k≤n.Cons.length∧∀ c ∈ n.Cons.take k,m c = true) (fun s => n.Cons.length - s.1.toNat)
  (fun r => (r = .go ((),0)∧∀ c ∈ n.Cons,m c = true)∨(r = .ret ((),1)∧¬ ∀ c ∈ n.Cons,m c = true)) (by
  rintro s ⟨k,rfl,hk,hall⟩;unfold Z14.s0;simp only
  by_cases hlt:k < n.Cons.length
  ·rw [ZP (show (k:Int) < n.Cons.length by omega),cond_true,at?_nat hlt]
   simp only [Y0];rw [h _ (YE hlt)];simp only [Y0];have hw:w64 ((k:Int) + 1) = ((k + 1:Nat):Int):=by rw [Z9 (by omega)];push_cast;rfl
   cases hm:m n.Cons[k] with
   | true =>
    simp only [YD,cond_false,Y0];refine .inl ⟨_,rfl,⟨k + 1,by rw [hw],hlt,fun c hc => ?_⟩,by simp only [hw];omega⟩
    rw [List.take_add_one,Y2 hlt] at hc
    rcases List.mem_append.1 hc with hc | hc
    ·exact hall c hc
    ·simp at hc;rw [hc];exact hm
   | false =>
    simp only [Yj,cond_true,Z3K,if_true,Z09.b0,Y0,YA];refine .inr ⟨.ret ((),1),rfl,.inr ⟨rfl,fun hh => ?_⟩⟩
    rw [hh _ (YE hlt)] at hm;cases hm
  ·have:k = n.Cons.length:=by omega
   subst this;rw [ZQ (by omega),cond_false]
   rw [Yx] at hall;exact .inr ⟨_,rfl,.inl ⟨rfl,hall⟩⟩) (0,((),0)) ⟨0,rfl,YM _,by simp⟩
 rw [e]
 rcases hr with ⟨rfl,hh⟩ | ⟨rfl,hh⟩
 ·rw [if_pos hh];rfl
 ·rw [if_neg hh];rfl
noncomputable def metB (n:Net) (ts:List Int) (c:Con):Bool:=(Z5U n c ts).getD false
end
theorem holds_of {n:Net} {ts:List Int} {m:Con→Bool} (hown:Z83 n ts = some true) (hlen:n.Cons.length≤200) (h:∀ c ∈ n.Cons,Z5U n c ts = some (m c)):Z09 n ts = some (decide (∀ c ∈ n.Cons,m c = true)):=by
 unfold Z09
 rw [hown]
 simp only [Y0,YD,cond_false]
 rw [holding_eq hlen h]
 simp only [Y0]
 by_cases hh:∀ c ∈ n.Cons,m c = true
 ·rw [if_pos hh,decide_eq_true hh];rfl
 ·rw [if_neg hh,decide_eq_false hh];rfl
noncomputable def partsRest (n:Net) (cut:Int) (x6:List Int):Option Bool :=
   (nz? (w64 ((n.Cons.length:Int) + 1))).bind fun u1 =>
   (cut? n.Cons 0 ((w64 cut).tmod (w64 ((n.Cons.length:Int) + 1)))).bind fun x7 =>
   (cut? n.Cons ((w64 cut).tmod (w64 ((n.Cons.length:Int) + 1))) (n.Cons.length:Int)).bind fun x8 =>
   (Z2r (Net.mk n.Vars n.Forms x7) x6).bind fun x9 =>
   (Z2r (Net.mk n.Vars n.Forms x8) x6).bind fun x10 =>
   (Z2r n x6).bind fun x11 =>
   (bif ((x9.2 != x10.2) || (x9.2 != x11.2)) then
    some false
   else
    (loopO (Z0z.s1 n cut x10) (0,x9.1)).bind fun (y2:(List Int)) =>
    (Z3A y2 x11.1).bind fun x14 =>
    (
     (bif x14 then
      (Z09 n x6).bind fun x15 =>
      some (x15 == ((x9.2 == 0) && ((x11.1.length:Int) == 0)))
     else
      some false)).bind fun (y3:Bool) =>
    (
     (bif y3 then
      (Z09 n x6).bind fun x16 =>
      (Z09 (Net.mk n.Vars n.Forms x7) x6).bind fun x17 =>
      (
       (bif x17 then
        (Z09 (Net.mk n.Vars n.Forms x8) x6).bind fun x18 =>
        some x18
       else
        some false)).bind fun (y5:Bool) =>
      some (x16 == y5)
     else
      some false)).bind fun (y4:Bool) =>
    some (y4 && Z2A))
end Go.Dn

namespace Go.Dn
open Go
def bd:Option Int→Bound
 | none => ⟨1,0⟩
 | some k => ⟨0,k⟩
def ole (a b:Option Int):Prop:=match b with
 | none => True
 | some k => match a with
  | none => False
  | some l => l≤k
def oadd (a b:Option Int):Option Int:=match a,b with
 | some x,some y => some (x + y)
 | _,_ => none
def omin (a b:Option Int):Option Int:=match a,b with
 | none,b => b
 | a,none => a
 | some x,some y => some (if x < y then x else y)
def olt (a b:Option Int):Bool:=match a,b with
 | none,_ => false
 | some _,none => true
 | some x,some y => decide (x < y)
def inB (B:Int) (a:Option Int):Prop:=match a with
 | none => True
 | some x => -B≤x∧x≤B
theorem Z5l (a:Option Int):ole a a:=by cases a <;> simp [ole]
theorem Z6L {a b c:Option Int} (h1:ole a b) (h2:ole b c):ole a c:=by
 cases a <;> cases b <;> cases c <;> simp [ole] at * <;> omega
theorem ZBJ {a b c d:Option Int} (h1:ole a c) (h2:ole b d):ole (oadd a b) (oadd c d):=by
 cases a <;> cases b <;> cases c <;> cases d <;> simp [ole,oadd] at * <;> omega
theorem ole_min {a b c:Option Int} (h1:ole c a) (h2:ole c b):ole c (omin a b):=by
 cases a <;> cases b <;> cases c <;> simp [ole,omin] at * <;> (try split) <;> omega
theorem omin_l (a b:Option Int):ole (omin a b) a:=by
 cases a <;> cases b <;> simp [ole,omin] <;> (try split) <;> omega
theorem omin_r (a b:Option Int):ole (omin a b) b:=by
 cases a <;> cases b <;> simp [ole,omin] <;> (try split) <;> omega
theorem omin_or (a b:Option Int):omin a b = a∨omin a b = b:=by
 cases a <;> cases b <;> simp [omin] <;> omega
theorem ZCJ (a b:Option Int):omin a b = if olt a b = true then a else b:=by
 cases a <;> cases b <;> simp [omin,olt]
 split <;> rfl
theorem omin_self {a b:Option Int} (h:ole a b):omin a b = a:=by
 cases a <;> cases b <;> simp [omin,ole] at * <;> omega
theorem oadd_zero (a:Option Int):oadd a (some 0) = a:=by cases a <;> simp [oadd]
theorem zero_oadd (a:Option Int):oadd (some 0) a = a:=by cases a <;> simp [oadd]
theorem Z8O (a b c:Option Int):oadd (oadd a b) c = oadd a (oadd b c):=by
 cases a <;> cases b <;> cases c <;> simp [oadd,Int.add_assoc]
theorem inB_add {B:Int} {a b:Option Int} (h1:inB B a) (h2:inB B b):inB (2 * B) (oadd a b):=by
 cases a <;> cases b <;> simp [inB,oadd] at * <;> omega
theorem ZBH {B C:Int} {a:Option Int} (h:inB B a) (hc:B≤C):inB C a:=by
 cases a <;> simp [inB] at * <;> omega
theorem inB_min {B:Int} {a b:Option Int} (h1:inB B a) (h2:inB B b):inB B (omin a b):=by
 rcases omin_or a b with h | h <;> rw [h] <;> assumption
theorem less_bd (a b:Option Int):Z0O (bd a) (bd b) = olt a b:=by
 cases a with
 | none => cases b <;> simp [bd,olt,Z0O,ZF]
 | some x =>
  cases b with
  | none => simp [bd,olt,Z0O,ZF]
  | some y => rfl
theorem sum_bd {a b:Option Int} {B:Int} (hB:B≤2305843009213693952) (h1:inB B a) (h2:inB B b):Z0L (bd a) (bd b) = (bd (oadd a b),0):=by
 cases a with
 | none => cases b <;> simp [bd,oadd,Z0L,ZF]
 | some x =>
  cases b with
  | none => simp [bd,oadd,Z0L,ZF]
  | some y =>
   simp only [inB] at h1 h2;have e:Zf x y = (x + y,0):=by
    rw [Z9I (by unfold In64;omega) (by unfold In64;omega),fitS_of (by unfold In64;omega)]
   simp [bd,oadd,Z0L,ZF,e]
theorem less_zero (a:Option Int):Z0O (bd a) (Bound.mk 0 0) = olt a (some 0):=less_bd a (some 0)
theorem may_bd {a:Option Int} (h:inB 1125899906842624 a):Z8c (bd a) = true:=by
 cases a with
 | none => rfl
 | some x =>
  simp only [inB] at h;unfold Z8c bd;simp only [];rw [ZP (p:=x ≥ _) (by omega),ZP (p:=x≤_) (by omega)]
  rfl
theorem subF {a b:Int} (ha:In64 a) (hb:In64 b):Z0U a b = fitS (a - b):=by
 unfold In64 at ha hb
 unfold Z0U fitS w64
 rw [Z5m]
 cases h:((decide ((a - b + 9223372036854775808) % 18446744073709551616 - 9223372036854775808 < a) != decide (b > 0)) && b != 0)
 ·rw [cond_false];simp only [Y0W,bne_eq_false_iff_eq,decide_eq_decide] at h
  split <;> simp only [Y3,and_true] <;> omega
 ·rw [cond_true];simp only [Y9,bne_iff_ne,ne_eq,decide_eq_decide] at h
  split <;> simp only [Y3] <;> omega
def rowM (n:Nat) (M:Nat→Nat→Option Int) (i:Nat):List Bound:=(List.range n).map fun j => bd (M i j)
def Mat (n:Nat) (M:Nat→Nat→Option Int):List (List Bound):=(List.range n).map fun i => rowM n M i
def updM (M:Nat→Nat→Option Int) (i j:Nat) (v:Option Int):Nat→Nat→Option Int:=fun a b => if a = i∧b = j then v else M a b
section
variable {n:Nat} {M A:Nat→Nat→Option Int}
theorem Z4B:(Mat n M).length = n:=by simp [Mat]
theorem Z6v {i:Nat}:(rowM n M i).length = n:=by simp [rowM]
theorem Z67 {i:Nat} (h:i < n):at? (Mat n M) (i:Int) = some (rowM n M i):=by
 rw [at?_nat (by rw [Z4B];exact h)];simp [Mat]
theorem Z4m {i j:Nat} (h:j < n):at? (rowM n M i) (j:Int) = some (bd (M i j)):=by
 rw [at?_nat (by rw [Z6v];exact h)];simp [rowM]
theorem Z6I (h:∀ i j,i < n→j < n→M i j = A i j):Mat n M = Mat n A:=by
 unfold Mat rowM
 apply List.map_congr_left
 intro i hi
 apply List.map_congr_left
 intro j hj
 rw [h i j (by simpa using hi) (by simpa using hj)]
theorem Mat_set {i j:Nat} (v:Option Int):(Mat n M).set i ((rowM n M i).set j (bd v)) = Mat n (updM M i j v):=by
 apply List.ext_getElem
 ·simp [Mat]
 ·intro a h1 h2;have ha:a < n:=by simpa [Mat] using h2
  rw [List.getElem_set]
  by_cases hai:i = a
  ·subst hai;rw [if_pos rfl];apply List.ext_getElem
   ·simp [Mat,rowM]
   ·intro b g1 g2;rw [List.getElem_set]
    by_cases hbj:j = b
    ·subst hbj;simp [Mat,rowM,updM]
    ·rw [if_neg hbj];simp [Mat,rowM,updM,Ne.symm hbj]
  ·rw [if_neg hai];simp [Mat,rowM,updM,Ne.symm hai]
theorem Mat_set' {i j:Nat} (v:Option Int):(Mat n M).set ((i:Int)).toNat ((rowM n M i).set ((j:Int)).toNat (bd v)) = Mat n (updM M i j v):=Mat_set v
end
theorem repeat_eq {n:Nat} (h1:1≤n) (h2:n≤24) (a:Bound):ZS [a] (n:Int) = some (List.replicate n a):=by
 have hmul:Za (IntKind.u64.wrap (([a] : List Bound).length:Int)) (IntKind.u64.wrap (n:Int)) = (0,(n:Int)):=by
  have e1:IntKind.u64.wrap (([a] : List Bound).length:Int) = 1:=by rw [Z4s];rfl
  have e2:IntKind.u64.wrap (n:Int) = n:=by rw [Z4s];omega
  rw [e1,e2];unfold Za;rw [mul64_eq (by unfold Z8d;omega) (by unfold Z8d;omega)]
  simp only [Y3];omega
 unfold ZS
 rw [ZQ (by omega),cond_false,hmul]
 simp only []
 rw [ZQ (by omega),ZQ (by omega),Bool.or_self,cond_false,Z9 (by omega)]
 have hnew:new? 16 (n:Int) (Bound.mk 0 0) = some (List.replicate n ⟨0,0⟩):=by
  unfold new?;rw [if_pos ⟨by omega,by rw [Z5T];omega⟩,YP]
 rw [hnew,Y0]
 have hcp:cpy (List.replicate n (⟨0,0⟩ : Bound)) [a] = a :: List.replicate (n - 1) ⟨0,0⟩:=by
  unfold cpy;rw [Y0X,List.length_singleton,Nat.min_eq_left h1,List.drop_replicate]
  rfl
 have hmin:(min ([a] : List Bound).length (List.replicate n (⟨0,0⟩ : Bound)).length:Nat) = 1:=by
  rw [Y0X,List.length_singleton,Nat.min_eq_left h1]
 rw [hcp,hmin]
 have key:=Z1F (step:=ZS.s0 [a] (n:Int)) (I:=fun s r => r = List.replicate n a∧∃ p:Nat,s.1 = (p:Int)∧1≤p∧p≤n∧s.2.length = n∧s.2.take p = List.replicate p a) (fun s => n - s.1.toNat) ?_ (s:=(((1:Nat):Int),a :: List.replicate (n - 1) ⟨0,0⟩)) (r:=List.replicate n a) ⟨rfl,1,rfl,YB _,h1,by simp;omega,rfl⟩
 ·rw [key];rfl
 ·rintro ⟨s1,xs⟩ r ⟨rfl,p,hp,hp1,hpn,hlen,htake⟩;simp only at hp hlen htake;subst hp;unfold ZS.s0;rw [hmul];simp only [hlen]
  by_cases hlt:p < n
  ·rw [ZP (by omega),cond_true,Z9 (x:=(n:Int)) (by omega),YP,YP]
   have w1:winA (p:Int) n = some ():=if_pos ⟨by omega,by omega⟩
   have w2:winB (p:Int) n = some ():=if_pos ⟨by omega,by omega⟩
   rw [w1,w2,Y0,Y0];refine .inl ⟨_,rfl,⟨trivial,p + min p (n - p),?_,by omega,by omega,?_,?_⟩,?_⟩
   ·rw [Z9 (by omega)];push_cast;rfl
   ·simp only [dbl,Ya,YL,Y07,hlen];omega
   ·have hd:dbl xs p = List.replicate p a ++ List.replicate (min p (n - p)) a ++ xs.drop (p + min p (n - p)):=by
     unfold dbl;rw [htake,hlen,List.take_replicate,Nat.min_comm (n - p) p]
    simp only [hd];rw [List.replicate_append_replicate,Y0P (by simp),Y0D (by simp)]
   ·simp only [YP];rw [Z9 (by omega)]
    omega
  ·have hpe:p = n:=by omega
   subst hpe;rw [ZQ (by omega),cond_false]
   refine .inr ?_;rw [Y0D (by omega)] at htake
   rw [htake]
end Go.Dn

namespace Go.Dn
open Go
def newM:Nat→Nat→Option Int:=fun a b => if a = b then some 0 else none
def BdM (n:Nat) (M:Nat→Nat→Option Int) (B:Int):Prop:=∀ i j,i < n→j < n→inB B (M i j)
theorem stp_New_eq {n:Nat} (h1:1≤n) (h2:n≤24):Z4C (n:Int) = some (Mat n newM,0):=by
 unfold Z4C
 rw [ZQ (by omega),ZQ (by omega),Bool.or_self,cond_false]
 have hnew:new? 24 (n:Int) ([] : List Bound) = some (List.replicate n []):=by
  unfold new?;rw [if_pos ⟨by omega,by rw [Z5T];omega⟩,YP]
 rw [hnew,Y0]
 have key:=Z1F (step:=Z4C.s0 (n:Int)) (I:=fun s r => r = Mat n newM∧∃ p:Nat,s.1 = (p:Int)∧p≤n∧s.2.length = n∧∀ a,a < p→s.2[a]? = some (rowM n newM a)) (fun s => n - s.1.toNat) ?_ (s:=(0,List.replicate n [])) (r:=Mat n newM) ⟨rfl,0,rfl,YM _,by simp,fun a ha => absurd ha (Y0h _)⟩
 ·rw [key];rfl
 ·rintro ⟨s1,L⟩ r ⟨rfl,p,hp,hpn,hlen,hL⟩;simp only at hp hlen hL;subst hp;unfold Z4C.s0;simp only []
  by_cases hlt:p < n
  ·rw [ZP (by omega),cond_true,repeat_eq h1 h2,Y0,at?_nat (by omega),Y0,YP,at?_nat (by rw [Yu];omega),Y0,List.getElem_set_self]
   rw [at?_nat (by simpa using hlt),Y0]
   refine .inl ⟨_,rfl,⟨trivial,p + 1,?_,by omega,?_,?_⟩,?_⟩
   ·simp only [];rw [Z9 (by omega)];push_cast;rfl
   ·simp [hlen]
   ·intro a ha;simp only [Y0b]
    by_cases hap:p = a
    ·subst hap;rw [if_pos rfl,if_pos (by simp;omega)]
     congr 1
     apply List.ext_getElem
     ·simp [rowM]
     ·intro b g1 g2;rw [List.getElem_set]
      by_cases hb:p = b
      ·subst hb;simp [rowM,newM,bd]
      ·rw [if_neg hb];simp [rowM,newM,bd,hb]
    ·rw [if_neg hap,if_neg hap];exact hL a (by omega)
   ·simp only [];rw [Z9 (by omega)];omega
  ·have hpe:p = n:=by omega
   subst hpe;rw [ZQ (by omega),cond_false]
   refine .inr ?_;have e:L = Mat p newM:=by
    apply Y0R;intro a
    by_cases ha:a < p
    ·rw [hL a ha];simp [Mat,ha]
    ·rw [YS (by omega),YS (by rw [Z4B];omega)]
   rw [e]
theorem findB_none {s:List Bound} {f:Bound→Option Bool} (hs:(s.length:Int) < 4611686018427387904) (h:∀ x ∈ s,f x = some false):Zn s f = some false:=by
 unfold Zn ZM
 have key:=Z1F (step:=ZM.s0 s f) (I:=fun (i:Int) r => r = .go ()∧∃ k:Nat,i = k∧k≤s.length) (fun i => s.length - i.toNat) ?_ (s:=0) (r:=.go ()) ⟨rfl,0,rfl,YM _⟩
 ·rw [key];rfl
 ·rintro i r ⟨rfl,k,rfl,hk⟩;unfold ZM.s0
  by_cases hlt:k < s.length
  ·rw [ZP (by omega),cond_true,at?_nat hlt,Y0,h _ (YE hlt)]
   refine .inl ⟨_,rfl,⟨rfl,k + 1,by rw [Z9 (by omega)];push_cast;rfl,hlt⟩,by rw [Z9 (by omega)];omega⟩
  ·rw [ZQ (by omega),cond_false];exact .inr rfl
theorem findR_none {s:List (List Bound)} {f:List Bound→Option Bool} (hs:(s.length:Int) < 4611686018427387904) (h:∀ x ∈ s,f x = some false):Zj s f = some false:=by
 unfold Zj ZG
 have key:=Z1F (step:=ZG.s0 s f) (I:=fun (i:Int) r => r = .go ()∧∃ k:Nat,i = k∧k≤s.length) (fun i => s.length - i.toNat) ?_ (s:=0) (r:=.go ()) ⟨rfl,0,rfl,YM _⟩
 ·rw [key];rfl
 ·rintro i r ⟨rfl,k,rfl,hk⟩;unfold ZG.s0
  by_cases hlt:k < s.length
  ·rw [ZP (by omega),cond_true,at?_nat hlt,Y0,h _ (YE hlt)]
   refine .inl ⟨_,rfl,⟨rfl,k + 1,by rw [Z9 (by omega)];push_cast;rfl,hlt⟩,by rw [Z9 (by omega)];omega⟩
  ·rw [ZQ (by omega),cond_false];exact .inr rfl
theorem ZA6 {n:Nat} {M:Nat→Nat→Option Int} (h2:n≤24) (hB:BdM n M 1125899906842624):Z3p (Mat n M) = some true:=by
 unfold Z3p
 rw [Z4B,ZP (by omega),cond_true,findR_none (by rw [Z4B];omega)]
 ·rfl
 ·intro row hrow;simp only [Mat,List.mem_map,Y0n] at hrow;obtain ⟨i,hi,rfl⟩:=hrow
  unfold Z4V;rw [Z6v,bne_f rfl,cond_false,findB_none (by rw [Z6v];omega)]
  ·rfl
  ·intro b hb;simp only [rowM,List.mem_map,Y0n] at hb;obtain ⟨j,hj,rfl⟩:=hb
   unfold Z5f;rw [may_bd (hB i j hi hj)];rfl
theorem stp_own_mat {n:Nat} {M:Nat→Nat→Option Int} (h1:1≤n) (h2:n≤24):Z7B (Mat n M) = some (Mat n M):=by
 unfold Z7B
 have ne:∀ {α:Type} {l:List α},l.length = n→l.isEmpty = false:=by
  intro α l hl;cases l with
  | nil => simp at hl;omega
  | cons a b => rfl
 have hr:=Z5T
 rw [ne Z4B,Z4B,ZP (by omega)]
 have:((Mat n M).all fun q => !q.isEmpty && decide (q.length * 16≤room)) = true:=by
  rw [YG];intro q hq;simp only [Mat,List.mem_map,Y0n] at hq;obtain ⟨i,hi,rfl⟩:=hq
  rw [ne Z6v,Z6v,ZP (by omega)];rfl
 rw [this];rfl
def setM (M:Nat→Nat→Option Int) (i j:Nat) (v:Option Int):Nat→Nat→Option Int:=updM M i j (omin v (M i j))
theorem setM_bd {n i j:Nat} {M:Nat→Nat→Option Int} {v:Option Int} {B:Int} (hB:BdM n M B) (hi:i < n) (hj:j < n) (hv:inB B v):BdM n (setM M i j v) B:=by
 intro a b ha hb
 unfold setM updM
 split
 ·exact inB_min hv (hB i j hi hj)
 ·exact hB a b ha hb
def goodSet (n:Nat) (x:epactlaw24_Set):Prop:=∃ (i j:Nat) (v:Option Int),i < n∧j < n∧inB 1000 v∧x = ⟨i,j,bd v⟩
theorem tmod_nat {x:Int} {n:Nat} (h:0≤x) (hn:1≤n):∃ i:Nat,i < n∧x.tmod (n:Int) = i:=by
 refine ⟨(x % n).toNat,?_,?_⟩
 ·have h1:=Yt x (show (0:Int) < n by omega)
  have h2:=Yh x (show (n:Int) ≠ 0 by omega)
  omega
 ·rw [Int.tmod_eq_emod_of_nonneg h];have h2:=Yh x (show (n:Int) ≠ 0 by omega)
  omega
theorem newM_bd (n:Nat):BdM n newM 1000:=by
 intro i j _ _
 unfold newM
 split
 ·exact ⟨by omega,by omega⟩
 ·trivial
end Go.Dn

namespace Go.Dn
open Go
abbrev MF:=Nat→Nat→Option Int
def leM (n:Nat) (A M:MF):Prop:=∀ i j,i < n→j < n→ole (A i j) (M i j)
def TriM (n k:Nat) (A:MF):Prop:=∀ m,m < k→∀ i j,i < n→j < n→ole (A i j) (oadd (A i m) (A m j))
def DiagM (n:Nat) (A:MF):Prop:=∀ i,i < n→A i i = some 0
def fw (M:MF) (k:Nat):MF:=fun i j => omin (oadd (M i k) (M k j)) (M i j)
theorem fw_row {M:MF} {k j:Nat} (h:M k k = some 0):fw M k k j = M k j:=by
 unfold fw;rw [h,zero_oadd];exact omin_self (Z5l _)
theorem fw_col {M:MF} {k i:Nat} (h:M k k = some 0):fw M k i k = M i k:=by
 unfold fw;rw [h,oadd_zero];exact omin_self (Z5l _)
theorem fw_le (M:MF) (k i j:Nat):ole (fw M k i j) (M i j):=omin_r _ _
theorem fw_tri {n k:Nat} {M:MF} (hk:k < n) (hd:M k k = some 0) (ht:TriM n k M):TriM n (k + 1) (fw M k):=by
 intro m hm i j hi hj
 by_cases hmk:m = k
 ·subst hmk;rw [fw_row hd,fw_col hd];exact omin_l _ _
 ·have hm':m < k:=by omega
  have T:=ht m hm'
  have t1:fw M k i m = oadd (M i k) (M k m)∨fw M k i m = M i m:=omin_or _ _
  have t2:fw M k m j = oadd (M m k) (M k j)∨fw M k m j = M m j:=omin_or _ _
  have hz:ole (some 0) (oadd (M k m) (M m k)):=by have:=T k k hk hk;rwa [hd] at this
  rcases t1 with e1 | e1 <;> rcases t2 with e2 | e2 <;> rw [e1,e2]
  ·refine Z6L (omin_l _ _) ?_;rw [Z8O,← Z8O (M k m)];refine ZBJ (Z5l _) ?_;have:=ZBJ hz (Z5l (M k j))
   rwa [zero_oadd] at this
  ·refine Z6L (omin_l _ _) ?_;rw [Z8O];exact ZBJ (Z5l _) (T k j hk hj)
  ·refine Z6L (omin_l _ _) ?_;rw [← Z8O];exact ZBJ (T i k hi hk) (Z5l _)
  ·exact Z6L (omin_r _ _) (T i j hi hj)
theorem fw_gr {n k:Nat} {M Y:MF} (hk:k < n) (hY:TriM n n Y) (h:leM n Y M):leM n Y (fw M k):=by
 intro i j hi hj
 exact ole_min (Z6L (hY k hk i j hi hj) (ZBJ (h i k hi hk) (h k j hk hj))) (h i j hi hj)
theorem fw_bd {n k:Nat} {M:MF} {B:Int} (hk:k < n) (h0:0≤B) (h:BdM n M B):BdM n (fw M k) (2 * B):=by
 intro i j hi hj
 exact inB_min (inB_add (h i k hi hk) (h k j hk hj)) (ZBH (h i j hi hj) (by omega))
def mid (M:MF) (k i j:Nat):MF:=fun a b => if a < i∨(a = i∧b < j) then fw M k a b else M a b
theorem mid_upd {M:MF} {k i j:Nat}:∀ a b,updM (mid M k i j) i j (fw M k i j) a b = mid M k i (j + 1) a b:=by
 intro a b
 unfold updM mid
 by_cases h:a = i∧b = j
 ·rw [if_pos h,if_pos (by omega),h.1,h.2]
 ·rw [if_neg h]
  by_cases h2:a < i∨(a = i∧b < j)
  ·rw [if_pos h2,if_pos (by omega)]
  ·rw [if_neg h2,if_neg (by omega)]
variable {n:Nat} {d:List (List Bound)}
theorem close_s3 {M:MF} {k i:Nat} {B:Int} {s2 s3:Int × List (List Bound)} (hn:n≤24) (hdl:d.length = n) (h2:s2.1 = (k:Int)) (h3:s3.1 = (i:Int)) (hk:k < n) (hi:i < n) (hd:M k k = some 0) (hB:BdM n M B) (hB1:B≤2305843009213693952) :
  loopO (ZU.s3 d s2 s3) (0,Mat n (mid M k i 0)) = some (Mat n (mid M k (i + 1) 0)):=by
 refine Z1F (I:=fun s r => r = Mat n (mid M k (i + 1) 0)∧∃ j:Nat,s = ((j:Int),Mat n (mid M k i j))∧j≤n) (fun s => n - s.1.toNat) ?_ ⟨rfl,0,rfl,YM _⟩
 rintro _ r ⟨rfl,j,rfl,hj⟩
 unfold ZU.s3
 simp only [h2,h3,hdl]
 by_cases hlt:j < n
 ·have e1:mid M k i j i k = M i k:=by
   unfold mid;split
   ·exact fw_col hd
   ·rfl
  have e2:mid M k i j k j = M k j:=by
   unfold mid;split
   ·exact fw_row hd
   ·rfl
  have e3:mid M k i j i j = M i j:=by unfold mid;rw [if_neg (by omega)]
  have hw:w64 ((j:Int) + 1) = ((j + 1:Nat):Int):=by rw [Z9 (by omega)];push_cast;rfl
  rw [ZP (by omega),cond_true,Z67 hi,Y0,Z4m hk,Y0,Z67 hk,Y0,Z4m hlt,Y0,e1,e2,sum_bd hB1 (hB i k hi hk) (hB k j hk hlt)]
  simp only [beq_t,cond_true,Y0,Z67 hi,Z4m hlt,less_bd,e3,hw];refine .inl ?_;have hstep:∀ X,X = Mat n (mid M k i (j + 1))→(∃ s',some (Sum.inl (((j + 1:Nat):Int),X)) = some (Sum.inl s':(Int × List (List Bound)) ⊕ List (List Bound))∧(True∧∃ j:Nat,s' = ((j:Int),Mat n (mid M k i j))∧j≤n)∧n - s'.1.toNat < n - ((j:Int)).toNat):=by
   rintro X rfl;exact ⟨_,rfl,⟨trivial,j + 1,rfl,hlt⟩,by simp only [YP];omega⟩
  cases h:olt (oadd (M i k) (M k j)) (M i j) with
  | true =>
   simp only [cond_true,Y0];refine hstep _ ?_;rw [Mat_set'];refine Z6I fun a b _ _ => ?_
   rw [← mid_upd];have:oadd (M i k) (M k j) = fw M k i j:=by unfold fw;rw [ZCJ,if_pos h]
   rw [this]
  | false =>
   simp only [cond_false,Y0];refine hstep _ ?_;refine Z6I fun a b _ _ => ?_
   rw [← mid_upd];unfold updM
   split
   ·rename_i hh;rw [hh.1,hh.2,e3];unfold fw;rw [ZCJ,h];rfl
   ·rfl
 ·have:j = n:=by omega
  subst this;rw [ZQ (by omega),cond_false]
  refine .inr ?_
  congr 2
  refine Z6I fun a b ha hb => ?_
  unfold mid
  by_cases h:a < i + 1
  ·rw [if_pos (by omega),if_pos (by omega)]
  ·rw [if_neg (by omega),if_neg (by omega)]
theorem close_s2 {M:MF} {k:Nat} {B:Int} {s2:Int × List (List Bound)} (hn:n≤24) (hdl:d.length = n) (h2:s2.1 = (k:Int)) (hk:k < n) (hd:M k k = some 0) (hB:BdM n M B) (hB1:B≤2305843009213693952) :
  loopO (ZU.s2 d s2) (0,Mat n M) = some (Mat n (fw M k)):=by
 have e0:Mat n M = Mat n (mid M k 0 0):=Z6I fun a b _ _ => by unfold mid;rw [if_neg (by omega)]
 have e1:Mat n (fw M k) = Mat n (mid M k n 0):=Z6I fun a b ha _ => by unfold mid;rw [if_pos (by omega)]
 rw [e0,e1]
 refine Z1F (I:=fun s r => r = Mat n (mid M k n 0)∧∃ i:Nat,s = ((i:Int),Mat n (mid M k i 0))∧i≤n) (fun s => n - s.1.toNat) ?_ ⟨rfl,0,rfl,YM _⟩
 rintro _ r ⟨rfl,i,rfl,hi⟩
 unfold ZU.s2
 simp only [hdl]
 by_cases hlt:i < n
 ·rw [ZP (by omega),cond_true,close_s3 hn hdl h2 rfl hk hlt hd hB hB1,Y0]
  have hw:w64 ((i:Int) + 1) = ((i + 1:Nat):Int):=by rw [Z9 (by omega)];push_cast;rfl
  rw [hw];exact .inl ⟨_,rfl,⟨trivial,i + 1,rfl,hlt⟩,by simp only [YP];omega⟩
 ·have:i = n:=by omega
  subst this;rw [ZQ (by omega),cond_false]
  exact .inr rfl
theorem close_s4 {M:MF} (hn:n≤24) (hdl:d.length = n) :
  (loopO (ZU.s4 d (Mat n M)) 0 = some (.go ())∧∀ i,i < n→olt (M i i) (some 0) = false)∨(loopO (ZU.s4 d (Mat n M)) 0 = some (.ret ())∧∃ i,i < n∧olt (M i i) (some 0) = true):=by
 have key:=Z2C (l:=List.range n) (step:=ZU.s4 d (Mat n M)) (good:=fun k x => olt (M x x) (some 0) = false) (yes:=.go ()) (no:=.ret ()) ?_ ?_
 ·rcases key with ⟨h1,h2⟩ | ⟨h1,h2⟩
  ·exact .inl ⟨h1,fun i hi => h2 i i (by simp [hi])⟩
  ·refine .inr ⟨h1,?_⟩;refine Classical.byContradiction fun hc => h2 fun k x hx => ?_
   have hx':x < n:=by have:=Y7 hx;simpa using this
   cases h:olt (M x x) (some 0) with
   | false => rfl
   | true => exact absurd ⟨x,hx',h⟩ hc
 ·intro k x hx _;obtain ⟨hk,rfl⟩ : k < n∧x = k:=by
   rw [Y0r] at hx;obtain ⟨h,e⟩:=hx
   simp at h e;exact ⟨h,e.symm⟩
  unfold ZU.s4;rw [hdl,ZP (by omega),cond_true,Z67 hk,Y0,Z4m hk,Y0,less_zero]
  cases h:olt (M x x) (some 0) with
  | true => exact .inr ⟨rfl,by simp⟩
  | false =>
   rw [cond_false,Z9 (by omega)]
   exact .inl ⟨rfl,rfl⟩
 ·unfold ZU.s4;rw [hdl,Y0a,ZQ (by omega),cond_false]
theorem lt_neg {a:Option Int} (h:olt a (some 0) = true):¬ ole (some 0) a:=by
 cases a <;> simp [olt,ole] at * <;> omega
theorem lt_not {a:Option Int} (h:olt a (some 0) = false) (h2:ole a (some 0)):a = some 0:=by
 cases a <;> simp [olt,ole] at * <;> omega
structure InvC (n:Nat) (B:Int) (M:MF) (k:Nat) (C:MF):Prop where
 diag:DiagM n C
 tri:TriM n k C
 le:leM n C M
 gr:∀ Y,TriM n n Y→DiagM n Y→leM n Y M→leM n Y C
 bd:BdM n C (B * 2 ^ k)
def NoSol (n:Nat) (M:MF):Prop:=∀ Y,TriM n n Y→DiagM n Y→¬ leM n Y M
theorem pow_le24 {k:Nat} (h:k≤24):(2:Int) ^ k≤16777216∧1≤(2:Int) ^ k:=by
 have h1:(2:Nat) ^ k≤2 ^ 24:=Nat.pow_le_pow_right (by omega) h
 have h2:1≤(2:Nat) ^ k:=Nat.one_le_two_pow
 have h3:((2 ^ k:Nat):Int) = (2:Int) ^ k:=by push_cast;rfl
 omega
theorem close_s0 {M:MF} {B:Int} (hB0:0≤B) (hn:n≤24) (hdl:d.length = n) (hB:BdM n M B) :
  (∃ C,loopO (ZU.s0 d) (0,Mat n M) = some (.go (Mat n C))∧InvC n B M 0 C)∨(loopO (ZU.s0 d) (0,Mat n M) = some (.ret ([],false,0))∧NoSol n M):=by
 have key:=Z0N (step:=ZU.s0 d) (I:=fun s => ∃ (i:Nat) (C:MF),s = ((i:Int),Mat n C)∧i≤n∧(∀ a,a < i→C a a = some 0)∧leM n C M∧(∀ Y,DiagM n Y→leM n Y M→leM n Y C)∧BdM n C B∧∀ a,i≤a→C a a = M a a) (fun s => n - s.1.toNat)
  (fun r => (∃ C,r = .go (Mat n C)∧InvC n B M 0 C)∨(r = .ret ([],false,0)∧NoSol n M)) ?_ (0,Mat n M) ⟨0,M,rfl,YM _,fun a ha => absurd ha (Y0h _),fun i j _ _ => Z5l _,fun Y _ h => h,hB,fun _ _ => rfl⟩
 ·obtain ⟨r,e,⟨C,rfl,h⟩ | ⟨rfl,h⟩⟩:=key
  ·exact .inl ⟨C,e,h⟩
  ·exact .inr ⟨e,h⟩
 ·rintro _ ⟨i,C,rfl,hi,hdg,hle,hgr,hbd,hrest⟩;unfold ZU.s0;simp only [hdl]
  by_cases hlt:i < n
  ·rw [ZP (by omega),cond_true]
   simp only [Z67 hlt,Z4m hlt,Y0,less_zero];cases h:olt (C i i) (some 0) with
   | true =>
    rw [cond_true];refine .inr ⟨_,rfl,.inr ⟨rfl,fun Y hY hD hYM => lt_neg h ?_⟩⟩
    have:=hgr Y hD hYM i i hlt hlt
    rwa [hD i hlt] at this
   | false =>
    rw [cond_false];refine .inl ⟨_,rfl,⟨i + 1,updM C i i (some 0),?_,hlt,?_,?_,?_,?_,?_⟩,?_⟩
    ·rw [Z9 (by omega)]
     congr 1
     exact Mat_set' (some 0)
    ·intro a ha;unfold updM
     split
     ·rfl
     ·exact hdg a (by omega)
    ·intro a b ha hb;unfold updM
     split
     ·rename_i hh;rw [hh.1,hh.2,← hrest i (YB _)];cases hc:C i i with
      | none => trivial
      | some v => rw [hc] at h;simp [olt] at h;simpa [ole] using h
     ·exact hle a b ha hb
    ·intro Y hD hYM a b ha hb;unfold updM
     split
     ·rename_i hh;rw [hh.1,hh.2,hD i hlt];exact Z5l _
     ·exact hgr Y hD hYM a b ha hb
    ·intro a b ha hb;unfold updM
     split
     ·exact ⟨by omega,by omega⟩
     ·exact hbd a b ha hb
    ·intro a ha;unfold updM;rw [if_neg (by omega)]
     exact hrest a (by omega)
    ·simp only [];rw [Z9 (by omega)];omega
  ·have:i = n:=by omega
   subst this;rw [ZQ (by omega),cond_false]
   exact .inr ⟨_,rfl,.inl ⟨C,rfl,hdg,fun m hm => absurd hm (Y0h _),hle,fun Y _ hD => hgr Y hD,by simpa using hbd⟩⟩
theorem close_s1 {M C0:MF} {B:Int} (hB0:0≤B) (hB1:∀ k,k < n→B * 2 ^ k≤2305843009213693952) (hn:n≤24) (hdl:d.length = n) (h0:InvC n B M 0 C0) :
  (∃ C,loopO (ZU.s1 d) (0,Mat n C0) = some (.go (Mat n C))∧InvC n B M n C)∨(loopO (ZU.s1 d) (0,Mat n C0) = some (.ret ([],false,0))∧NoSol n M):=by
 have key:=Z0N (step:=ZU.s1 d) (I:=fun s => ∃ (k:Nat) (C:MF),s = ((k:Int),Mat n C)∧k≤n∧InvC n B M k C) (fun s => n - s.1.toNat)
  (fun r => (∃ C,r = .go (Mat n C)∧InvC n B M n C)∨(r = .ret ([],false,0)∧NoSol n M)) ?_ (0,Mat n C0) ⟨0,C0,rfl,YM _,h0⟩
 ·obtain ⟨r,e,⟨C,rfl,h⟩ | ⟨rfl,h⟩⟩:=key
  ·exact .inl ⟨C,e,h⟩
  ·exact .inr ⟨e,h⟩
 ·rintro _ ⟨k,C,rfl,hk,hI⟩;unfold ZU.s1;simp only [hdl]
  by_cases hlt:k < n
  ·have hp:=pow_le24 (k:=k) (by omega)
   have hpB:0≤B * 2 ^ k∧B * 2 ^ k≤2305843009213693952:=⟨Int.mul_nonneg hB0 (by omega),hB1 k hlt⟩
   rw [ZP (by omega),cond_true,close_s2 hn hdl rfl hlt (hI.diag k hlt) hI.bd hpB.2,Y0]
   have hbd':BdM n (fw C k) (B * 2 ^ (k + 1)):=by
    have:=fw_bd hlt hpB.1 hI.bd
    have e:B * 2 ^ (k + 1) = 2 * (B * 2 ^ k):=by rw [Int.pow_succ,← Y0j,Ys]
    rw [e];exact this
   have hgr':∀ Y,TriM n n Y→DiagM n Y→leM n Y M→leM n Y (fw C k):=fun Y hT hD hM => fw_gr hlt hT (hI.gr Y hT hD hM)
   rcases close_s4 (d:=d) (M:=fw C k) hn hdl with ⟨e4,h4⟩ | ⟨e4,i,hi,h4⟩
   ·rw [e4];refine .inl ⟨_,rfl,⟨k + 1,fw C k,?_,hlt,?_,fw_tri hlt (hI.diag k hlt) hI.tri,?_,hgr',hbd'⟩,?_⟩
    ·rw [Z9 (by omega)];push_cast;rfl
    ·intro i hi;refine lt_not (h4 i hi) ?_;have:=fw_le C k i i
     rwa [hI.diag i hi] at this
    ·exact fun a b ha hb => Z6L (fw_le C k a b) (hI.le a b ha hb)
    ·simp only [];rw [Z9 (by omega)];omega
   ·rw [e4];refine .inr ⟨_,rfl,.inr ⟨rfl,fun Y hT hD hM => lt_neg h4 ?_⟩⟩
    have:=hgr' Y hT hD hM i i hi hi
    rwa [hD i hi] at this
  ·have:k = n:=by omega
   subst this;rw [ZQ (by omega),cond_false]
   exact .inr ⟨_,rfl,.inl ⟨C,rfl,hI⟩⟩
theorem close_eq2 {M:MF} {B:Int} (hB0:0≤B) (hB2:B≤1125899906842624) (hB1:∀ k,k < n→B * 2 ^ k≤2305843009213693952) (h1:1≤n) (hn:n≤24) (hB:BdM n M B) :
  (∃ C,ZU (Mat n M) = some (Mat n C,true,0)∧InvC n B M n C)∨(ZU (Mat n M) = some ([],false,0)∧NoSol n M):=by
 unfold ZU
 rw [ZA6 hn (fun a b ha hb => ZBH (hB a b ha hb) hB2),Y0,YD,cond_false,stp_own_mat h1 hn,Y0]
 rcases close_s0 (d:=Mat n M) hB0 hn Z4B hB with ⟨C,e,h⟩ | ⟨e,h⟩
 ·rw [e];simp only [Y0,Jx.elim]
  rcases close_s1 (d:=Mat n M) hB0 hB1 hn Z4B h with ⟨C',e',h'⟩ | ⟨e',h'⟩
  ·rw [e'];exact .inl ⟨C',rfl,h'⟩
  ·rw [e'];exact .inr ⟨rfl,h'⟩
 ·rw [e];exact .inr ⟨rfl,h⟩
end Go.Dn

namespace Go.Dn
open Go
def vec (n:Nat) (E:Nat→Int):List Int:=(List.range n).map E
def tm (E:Nat→Int):MF:=fun i j => some (E j - E i)
section
variable {n:Nat} {E:Nat→Int}
theorem vec_len:(vec n E).length = n:=by simp [vec]
theorem vec_get {i:Nat} (h:i < n):at? (vec n E) (i:Int) = some (E i):=by
 rw [at?_nat (by rw [vec_len];exact h)];simp [vec]
theorem vec_of (t:List Int):t = vec t.length (fun i => t.getD i 0):=by
 apply List.ext_getElem
 ·simp [vec]
 ·intro a h1 h2;simp [vec,h1]
theorem tm_tri {k:Nat}:TriM n k (tm E):=by
 intro m _ i j _ _
 simp only [tm,oadd,ole];omega
theorem tm_diag:DiagM n (tm E):=by
 intro i _
 simp only [tm];congr 1;omega
end
theorem Z9f {n k x:Nat} (hx:(List.range n)[k]? = some x):k < n∧x = k:=by
 rw [Y0r] at hx
 obtain ⟨h,e⟩:=hx
 simp at h e
 exact ⟨h,e.symm⟩
variable {n:Nat}
theorem holds_s1 {C:MF} {E:Nat→Int} {i:Nat} (hn:n≤24) (hi:i < n) (hB:BdM n C 1125899906842624) (hE:∀ i,i < n→In64 (E i)) :
  (loopO (Zp.s1 (vec n E) (i:Int) (rowM n C i)) 0 = some (.go ())∧∀ j,j < n→ole (tm E i j) (C i j))∨(loopO (Zp.s1 (vec n E) (i:Int) (rowM n C i)) 0 = some (.ret false)∧¬ ∀ j,j < n→ole (tm E i j) (C i j)):=by
 have key:=Z2C (l:=List.range n) (step:=Zp.s1 (vec n E) (i:Int) (rowM n C i)) (good:=fun _ j => ole (tm E i j) (C i j)) (yes:=.go ()) (no:=.ret false) ?_ ?_
 ·rcases key with ⟨h1,h2⟩ | ⟨h1,h2⟩
  ·exact .inl ⟨h1,fun j hj => h2 j j (by simp [hj])⟩
  ·refine .inr ⟨h1,fun h => h2 fun k x hx => ?_⟩
   obtain ⟨hk,rfl⟩:=Z9f hx
   exact h x hk
 ·intro k x hx _;obtain ⟨hk,rfl⟩:=Z9f hx
  have h1:=hE x hk
  have h2:=hE i hi
  have hb:=hB i x hi hk
  unfold Zp.s1;rw [Z6v,ZP (by omega),cond_true,Z4m hk,Y0,vec_get hk,Y0,vec_get hi,Y0]
  have hw:w64 ((x:Int) + 1) = (x:Int) + 1:=Z9 (by omega)
  rw [subF h1 h2];cases hc:C i x with
  | none =>
   refine .inl ⟨?_,trivial⟩;simp only [bd,beq_t,cond_true,Y0,Jx.elim,hw]
  | some c =>
   rw [hc] at hb;simp only [inB] at hb;unfold In64 at h1 h2;have e0:((bd (some c)).Inf == 1) = false:=rfl
   have e1:(bd (some c)).N = c:=rfl
   rw [e0,e1,cond_false];simp only [tm,ole]
   rcases fit_or (E x - E i) with ⟨h3,h4⟩ | ⟨h3,h4⟩
   ·rw [h4];have e2:(((E x - E i,(0:Int)).2) != 0) = false:=rfl
    rw [e2,cond_false,Y0,cond_false];simp only [beq_t,Y0U]
    by_cases hlt:E x - E i > c
    ·rw [ZP hlt];exact .inr ⟨rfl,by omega⟩
    ·rw [ZQ hlt];refine .inl ⟨?_,by omega⟩
     simp only [Y0,cond_false,Jx.elim,hw]
   ·rw [h4];have e2:((((0:Int),(10:Int)).2) != 0) = true:=rfl
    rw [e2,cond_true,Y0,Y0];unfold In64 at h3
    by_cases hlt:E x > E i
    ·rw [ZP hlt];exact .inr ⟨rfl,by omega⟩
    ·rw [ZQ hlt];refine .inl ⟨?_,by omega⟩
     have e3:((((0:Int),(10:Int)).2) == 0) = false:=rfl
     simp only [Y0,cond_false,Jx.elim,hw,e3,Y0Q]
 ·unfold Zp.s1;rw [Z6v,Y0a,ZQ (by omega),cond_false]
theorem holds_eq {C:MF} {E:Nat→Int} (hn:n≤24) (hB:BdM n C 1125899906842624) (hE:∀ i,i < n→In64 (E i)) :
  (Zp (Mat n C) (vec n E) = some true∧leM n (tm E) C)∨(Zp (Mat n C) (vec n E) = some false∧¬ leM n (tm E) C):=by
 unfold Zp
 rw [ZA6 hn hB,Y0,Z4B,vec_len,bne_f rfl]
 simp only [YD,Y0T,cond_false]
 have key:=Z2C (l:=List.range n) (step:=Zp.s0 (Mat n C) (vec n E)) (good:=fun _ i => ∀ j,j < n→ole (tm E i j) (C i j)) (yes:=.go ()) (no:=.ret false) ?_ ?_
 ·rcases key with ⟨h1,h2⟩ | ⟨h1,h2⟩
  ·rw [h1];exact .inl ⟨rfl,fun i j hi hj => h2 i i (by simp [hi]) j hj⟩
  ·rw [h1];refine .inr ⟨rfl,fun h => h2 fun k x hx j hj => ?_⟩
   obtain ⟨hk,rfl⟩:=Z9f hx
   exact h x j hk hj
 ·intro k x hx _;obtain ⟨hk,rfl⟩:=Z9f hx
  unfold Zp.s0;rw [Z4B,ZP (by omega),cond_true,Z67 hk,Y0]
  rcases holds_s1 (i:=x) hn hk hB hE with ⟨h1,h2⟩ | ⟨h1,h2⟩
  ·rw [h1];refine .inl ⟨?_,h2⟩;simp only [Y0,Jx.elim];rw [Z9 (by omega)]
  ·rw [h1];exact .inr ⟨rfl,h2⟩
 ·unfold Zp.s0;rw [Z4B,Y0a,ZQ (by omega),cond_false]
def Early (n:Nat) (C:MF) (E:Nat→Int) (i k:Nat):Prop:=(∀ j,j < k→ole (some (E i)) (C j i))∧(E i = 0∨∃ j,j < n∧C j i = some (E i))
noncomputable def sameTail (x1:List (List Bound)) (x2:List (List Bound) × Bool × Int) (t:List Int):Option Bool :=
 (Zp x1 t).bind fun x8 =>
 (bif ((x2.2.2 != 0) || (!x2.2.1)) then
  some ((((x2.2.2 == 0) && (!x8)) && ((x2.1.length:Int) == 0)) && Z27)
 else
  (Zp x2.1 t).bind fun x10 =>
  (bif (x10 != x8) then
   some false
  else
   (Z2P x2.1 (x1.length:Int)).bind fun x11 =>
   (bif (!x11) then
    some false
   else
    (new? 8 (x1.length:Int) 0).bind fun x12 =>
    (loopO (Z0C.s1 x1 x2) (0,x12)).bind fun (y2:(List Int)) =>
    (Zp x1 y2).bind fun x19 =>
    (
     (bif x19 then
      (Zp x2.1 y2).bind fun x20 =>
      some x20
     else
      some false)).bind fun (y6:Bool) =>
    some (y6 && Z27))))
end Go.Dn

namespace Go.Dn
open Go
def lowM (a b:Range):Int × Bool:=if b.HasLow = true∧(a.HasLow = false∨b.Low > a.Low) then (b.Low,b.HasLow) else (a.Low,a.HasLow)
def Z8h (a b:Range):Int × Bool:=if b.HasHigh = true∧(a.HasHigh = false∨b.High < a.High) then (b.High,b.HasHigh) else (a.High,a.HasHigh)
def Z8t (a b:Range):Range × Bool:=if (lowM a b).2 = true∧(Z8h a b).2 = true∧(lowM a b).1 > (Z8h a b).1 then (Range.mk 0 0 false false,false) else (Range.mk (lowM a b).1 (Z8h a b).1 (lowM a b).2 (Z8h a b).2,true)
theorem prop_Meet_eq (a b:Range):Z3J a b = some (Z8t a b):=by
 obtain ⟨al,ah,ahl,ahh⟩:=a
 obtain ⟨bl,bh,bhl,bhh⟩:=b
 have e1:Zv (prop_end.mk al ahl) (prop_end.mk bl bhl) (fun z0 => some (Z25 z0)) (fun z0 z1 => some (Z4U z0 z1)) = some (prop_end.mk (lowM ⟨al,ah,ahl,ahh⟩ ⟨bl,bh,bhl,bhh⟩).1 (lowM ⟨al,ah,ahl,ahh⟩ ⟨bl,bh,bhl,bhh⟩).2):=by
  unfold Zv Z25 Z4U lowM;cases bhl <;> cases ahl <;> simp
  by_cases h:al < bl <;> simp [h]
 have e2:Zv (prop_end.mk ah ahh) (prop_end.mk bh bhh) (fun z0 => some (Z25 z0)) (fun z0 z1 => some (Z4O z0 z1)) = some (prop_end.mk (Z8h ⟨al,ah,ahl,ahh⟩ ⟨bl,bh,bhl,bhh⟩).1 (Z8h ⟨al,ah,ahl,ahh⟩ ⟨bl,bh,bhl,bhh⟩).2):=by
  unfold Zv Z25 Z4O Z8h;cases bhh <;> cases ahh <;> simp
  by_cases h:bh < ah <;> simp [h]
 unfold Z3J
 rw [e1,e2]
 simp only [Y0]
 unfold Z8t
 generalize lowM _ _ = p
 generalize Z8h _ _ = q
 obtain ⟨p1,p2⟩:=p
 obtain ⟨q1,q2⟩:=q
 cases p2 <;> cases q2 <;> simp
 by_cases h:q1 < p1 <;> simp [h]
def Z47 (r:Range):Prop:=(r.HasLow = true∨r.Low = 0)∧(r.HasHigh = true∨r.High = 0)
def Z52 (r:Range):Prop:=In64 r.Low∧In64 r.High
def Z3j (a b:Range):Prop:=(b.HasLow = true→a.HasLow = true∧b.Low≤a.Low)∧(b.HasHigh = true→a.HasHigh = true∧a.High≤b.High)
def inRg (r:Range) (d:Int):Prop:=(r.HasLow = true→r.Low≤d)∧(r.HasHigh = true→d≤r.High)
theorem narrow_refl (a:Range):Z3j a a:=⟨fun h => ⟨h,YZ _⟩,fun h => ⟨h,YZ _⟩⟩
theorem narrow_trans {a b c:Range} (h1:Z3j a b) (h2:Z3j b c):Z3j a c:=by
 refine ⟨fun h => ?_,fun h => ?_⟩
 ·obtain ⟨p,q⟩:=h2.1 h
  obtain ⟨p',q'⟩:=h1.1 p
  exact ⟨p',by omega⟩
 ·obtain ⟨p,q⟩:=h2.2 h
  obtain ⟨p',q'⟩:=h1.2 p
  exact ⟨p',by omega⟩
theorem inRg_mono {a b:Range} (h:Z3j a b) {d:Int} (hd:inRg a d):inRg b d:=by
 refine ⟨fun hb => ?_,fun hb => ?_⟩
 ·obtain ⟨p,q⟩:=h.1 hb
  have:=hd.1 p
  omega
 ·obtain ⟨p,q⟩:=h.2 hb
  have:=hd.2 p
  omega
theorem lowM_or (a b:Range):(lowM a b = (b.Low,b.HasLow)∧b.HasLow = true∧(a.HasLow = true→b.Low > a.Low))∨(lowM a b = (a.Low,a.HasLow)∧(b.HasLow = true→a.HasLow = true∧b.Low≤a.Low)):=by
 unfold lowM
 by_cases h:b.HasLow = true∧(a.HasLow = false∨b.Low > a.Low)
 ·rw [if_pos h];refine .inl ⟨rfl,h.1,fun h2 => ?_⟩
  rcases h.2 with h3 | h3
  ·rw [h2] at h3;cases h3
  ·exact h3
 ·rw [if_neg h];refine .inr ⟨rfl,fun h2 => ?_⟩
  cases h3:a.HasLow with
  | false => exact absurd ⟨h2,.inl h3⟩ h
  | true => exact ⟨rfl,Int.not_lt.1 fun h4 => h ⟨h2,.inr h4⟩⟩
theorem highM_or (a b:Range):(Z8h a b = (b.High,b.HasHigh)∧b.HasHigh = true∧(a.HasHigh = true→b.High < a.High))∨(Z8h a b = (a.High,a.HasHigh)∧(b.HasHigh = true→a.HasHigh = true∧a.High≤b.High)):=by
 unfold Z8h
 by_cases h:b.HasHigh = true∧(a.HasHigh = false∨b.High < a.High)
 ·rw [if_pos h];refine .inl ⟨rfl,h.1,fun h2 => ?_⟩
  rcases h.2 with h3 | h3
  ·rw [h2] at h3;cases h3
  ·exact h3
 ·rw [if_neg h];refine .inr ⟨rfl,fun h2 => ?_⟩
  cases h3:a.HasHigh with
  | false => exact absurd ⟨h2,.inl h3⟩ h
  | true => exact ⟨rfl,Int.not_lt.1 fun h4 => h ⟨h2,.inr h4⟩⟩
theorem ZDW {a b:Range} (h:(Z8t a b).2 = true):Z3j (Z8t a b).1 a∧Z3j (Z8t a b).1 b∧(∀ d,inRg a d→inRg b d→inRg (Z8t a b).1 d)∧(Z47 a→Z47 (Z8t a b).1)∧(Z52 a→Z52 b→Z52 (Z8t a b).1):=by
 unfold Z8t at h ⊢
 split at h
 ·cases h
 ·rename_i hc;rw [if_neg hc];simp only [Z3j,inRg,Z47,Z52]
  rcases lowM_or a b with ⟨e1,p1,p2⟩ | ⟨e1,p1⟩ <;> rcases highM_or a b with ⟨e2,q1,q2⟩ | ⟨e2,q1⟩ <;> rw [e1,e2]
  ·refine ⟨⟨fun h => ⟨p1,by have:=p2 h;omega⟩,fun h => ⟨q1,by have:=q2 h;omega⟩⟩,⟨fun _ => ⟨p1,YZ _⟩,fun _ => ⟨q1,YZ _⟩⟩,fun d hd1 hd2 => ⟨hd2.1,hd2.2⟩,fun _ => ⟨.inl p1,.inl q1⟩,fun h1 h2 => ⟨h2.1,h2.2⟩⟩
  ·refine ⟨⟨fun h => ⟨p1,by have:=p2 h;omega⟩,fun h => ⟨h,YZ _⟩⟩,⟨fun _ => ⟨p1,YZ _⟩,fun h => q1 h⟩,fun d hd1 hd2 => ⟨hd2.1,hd1.2⟩,fun h => ⟨.inl p1,h.2⟩,fun h1 h2 => ⟨h2.1,h1.2⟩⟩
  ·refine ⟨⟨fun h => ⟨h,YZ _⟩,fun h => ⟨q1,by have:=q2 h;omega⟩⟩,⟨fun h => p1 h,fun _ => ⟨q1,YZ _⟩⟩,fun d hd1 hd2 => ⟨hd1.1,hd2.2⟩,fun h => ⟨h.1,.inl q1⟩,fun h1 h2 => ⟨h1.1,h2.2⟩⟩
  ·exact ⟨⟨fun h => ⟨h,YZ _⟩,fun h => ⟨h,YZ _⟩⟩,⟨fun h => p1 h,fun h => q1 h⟩,fun d hd1 hd2 => ⟨hd1.1,hd1.2⟩,fun h => h,fun h1 h2 => h1⟩
theorem meet_yes {a b:Range} {d:Int} (h1:inRg a d) (h2:inRg b d):(Z8t a b).2 = true:=by
 unfold Z8t
 split
 ·rename_i hc
  exfalso
  obtain ⟨c1,c2,c3⟩:=hc
  have l:(lowM a b).1≤d:=by
   rcases lowM_or a b with ⟨e1,p1,p2⟩ | ⟨e1,p1⟩ <;> rw [e1] at c1 ⊢
   ·exact h2.1 p1
   ·exact h1.1 c1
  have g:d≤(Z8h a b).1:=by
   rcases highM_or a b with ⟨e1,p1,p2⟩ | ⟨e1,p1⟩ <;> rw [e1] at c2 ⊢
   ·exact h2.2 p1
   ·exact h1.2 c2
  omega
 ·rfl
theorem ZDF {r:Range}:Z4M r = true ↔ Z47 r:=by
 unfold Z4M Z47
 simp
structure NetI (n:Net):Prop where
 vars:0≤n.Vars∧n.Vars≤8
 forms:∀ f ∈ n.Forms,Lim f∧RightF f∧Z9J f∧Zm f = some 0
 nf:n.Forms.length≤4
 nc:n.Cons.length≤8
 cons:∀ c ∈ n.Cons,(0≤c.X∧c.X < n.Vars)∧(0≤c.Y∧c.Y < n.Vars)∧(0≤c.Form∧c.Form < n.Forms.length)∧Z47 c.Range∧Z52 c.Range
theorem NetI.right {n:Net} (h:NetI n):RightN n :=
 ⟨⟨h.vars.1,by have:=h.vars.2;omega⟩,fun f hf => ⟨(h.forms f hf).1,(h.forms f hf).2.1⟩,fun c hc => ⟨(h.cons c hc).1,(h.cons c hc).2.1,(h.cons c hc).2.2.1⟩,by have:=h.nc;omega⟩
theorem NetI.tag {n:Net} (h:NetI n):Z1a n = some 0:=by
 have hv:=h.vars
 have hf:=h.nf
 have hc:=h.nc
 unfold Z1a
 have c1:Z0c n.Vars 25 = true:=Z2N.2 (by omega)
 rw [c1]
 simp only [YD,cond_false]
 rw [ZQ (show ¬ (n.Forms.length:Int) > 20 by omega)]
 simp only [cond_false,Y0]
 rw [ZQ (show ¬ (n.Cons.length:Int) > 200 by omega)]
 simp only [cond_false]
 obtain ⟨b1,e1,i1⟩:=Z5t (l:=n.Forms) (f:=fun z0 => Z1D z0) (p:=fun f => false) (by omega) (fun f hm => by
  unfold Z1D;rw [(h.forms f hm).2.2.2]
  rfl)
 obtain ⟨b2,e2,i2⟩:=Z6q (l:=n.Cons) (f:=fun z0 => some (Z0t z0 n)) (p:=fun c => Z0t c n) (by omega) (fun _ _ => rfl)
 rw [e1]
 simp only [Y0]
 cases b1 with
 | true => obtain ⟨x,_,hx⟩:=i1.1 rfl;cases hx
 | false =>
 simp only [cond_false]
 rw [e2]
 simp only [Y0]
 cases b2 with
 | true =>
  obtain ⟨c,hm,hx⟩:=i2.1 rfl
  obtain ⟨q1,q2,q3,q4,_⟩:=h.cons c hm
  unfold Z0t Z3g at hx;rw [Z2N.2 q1,Z2N.2 q2,Z2N.2 q3,ZDF.2 q4] at hx;cases hx
 | false => rfl
theorem tag_Right_all {n:Net} (hf:∀ f ∈ n.Forms,Lim f) (l1:(n.Forms.length:Int) < 4611686018427387904) (l2:(n.Cons.length:Int) < 4611686018427387904):∃ e,Z1a n = some e∧(e = 0→(0≤n.Vars∧n.Vars≤24)∧(∀ f ∈ n.Forms,Zm f = some 0∧RightF f)∧∀ c ∈ n.Cons,(0≤c.X∧c.X < n.Vars)∧(0≤c.Y∧c.Y < n.Vars)∧(0≤c.Form∧c.Form < n.Forms.length)∧Z47 c.Range):=by
 unfold Z1a
 cases c1:Z0c n.Vars 25 with
 | false => exact ⟨230,rfl,fun h => absurd h (by decide)⟩
 | true =>
 simp only [YD,cond_false]
 cases c2:decide ((n.Forms.length:Int) > 20) with
 | true => exact ⟨230,rfl,fun h => absurd h (by decide)⟩
 | false =>
 simp only [cond_false,Y0]
 cases c3:decide ((n.Cons.length:Int) > 200) with
 | true => exact ⟨230,rfl,fun h => absurd h (by decide)⟩
 | false =>
 simp only [cond_false]
 have hfr:∀ f ∈ n.Forms,Z1D f = some ((Zm f).getD 0 != 0):=fun f hm => by
  unfold Z1D
  rcases Z43 (hf f hm) with ⟨q,h⟩ | ⟨q,r,h⟩ | ⟨q,r,h⟩ <;> rw [h] <;> rfl
 obtain ⟨b1,e1,i1⟩:=Z5t (l:=n.Forms) (f:=fun z0 => Z1D z0) (p:=fun f => (Zm f).getD 0 != 0) l1 hfr
 obtain ⟨b2,e2,i2⟩:=Z6q (l:=n.Cons) (f:=fun z0 => some (Z0t z0 n)) (p:=fun c => Z0t c n) l2 (fun _ _ => rfl)
 rw [e1]
 simp only [Y0]
 cases b1 with
 | true => exact ⟨230,rfl,fun h => absurd h (by decide)⟩
 | false =>
 simp only [cond_false]
 rw [e2]
 simp only [Y0]
 cases b2 with
 | true => exact ⟨230,rfl,fun h => absurd h (by decide)⟩
 | false =>
 refine ⟨0,rfl,fun _ => ?_⟩
 have v:=Z2N.1 c1
 refine ⟨by omega,fun f hm => ?_,fun c hm => ?_⟩
 ·rcases Z43 (hf f hm) with ⟨q,h⟩ | ⟨q,r,h⟩ | ⟨q,r,h⟩
  ·have:(false:Bool) = true:=i1.2 ⟨f,hm,by rw [h];rfl⟩
   cases this
  ·exact ⟨h,r⟩
  ·have:(false:Bool) = true:=i1.2 ⟨f,hm,by rw [h];rfl⟩
   cases this
 ·cases hc:Z0t c n with
  | true => have:=i2.2 ⟨c,hm,hc⟩;cases this
  | false =>
   unfold Z0t Z3g at hc;simp only [Bool.not_eq_false',Y9] at hc;exact ⟨Z2N.1 hc.1.1.1,Z2N.1 hc.1.1.2,Z2N.1 hc.1.2,ZDF.1 hc.2⟩
end Go.Dn

namespace Go.Dn
open Go
theorem ZCu {f:Form} (hl:Lim f) (hr:RightF f) (hsm:FewF f) {low high:Bound} (h:bad low high = false):∃ r ok,Z0l f low high = some (r,ok,0)∧Z52 r:=by
 unfold Z0l
 rw [show ((((!(ZF low)) || (!(ZF high))) || (low.Inf == 1)) || (high.Inf == (-1))) = false from h,cond_false,iMax_eq,iMin_eq]
 have zero:Z52 (Range.mk 0 0 false false):=by unfold Z52 In64;simp
 have t1:((high.Inf == 0) && (decide (high.N≤1099511627776))) = true→ZE (max high.N (-1099511627776)):=fun h => by
  simp at h;unfold ZE;omega
 have t2:((low.Inf == 0) && (decide (low.N ≥ (-1099511627776)))) = true→ZE (min low.N 1099511627776):=fun h => by
  simp at h;unfold ZE;omega
 cases ch:((high.Inf == 0) && (decide (high.N≤1099511627776))) with
 | true =>
  rw [cond_true];obtain ⟨n,b,e1,e2,e3⟩:=Z81 hl hr hsm (t1 ch)
  rw [e1];simp only [Y0];cases b with
  | false => exact ⟨_,_,rfl,zero⟩
  | true =>
   simp only [YD,cond_false,Y0,Jx.elim];cases cl:((low.Inf == 0) && (decide (low.N ≥ (-1099511627776)))) with
   | true =>
    rw [cond_true];obtain ⟨m,c,f1,f2,f3⟩:=Z7y hl hr hsm (t2 cl)
    rw [f1];simp only [Y0];cases c with
    | false => exact ⟨_,_,rfl,zero⟩
    | true =>
     simp only [YD,cond_false,Y0,Jx.elim];refine ⟨_,_,rfl,?_⟩;unfold Z52 In64;unfold BigI at e2 f2;simp only [];omega
   | false =>
    simp only [cond_false,Y0,Jx.elim];refine ⟨_,_,rfl,?_⟩;unfold Z52 In64;unfold BigI at e2;simp only [];omega
 | false =>
  simp only [cond_false,Y0,Jx.elim];cases cl:((low.Inf == 0) && (decide (low.N ≥ (-1099511627776)))) with
  | true =>
   rw [cond_true];obtain ⟨m,c,f1,f2,f3⟩:=Z7y hl hr hsm (t2 cl)
   rw [f1];simp only [Y0];cases c with
   | false => exact ⟨_,_,rfl,zero⟩
   | true =>
    simp only [YD,cond_false,Y0,Jx.elim];refine ⟨_,_,rfl,?_⟩;unfold Z52 In64;unfold BigI at f2;simp only [];omega
  | false =>
   simp only [cond_false,Y0,Jx.elim];exact ⟨_,_,rfl,zero⟩
def negB:Option Int→Bound
 | none => Bound.mk (-1) 0
 | some k => Bound.mk 0 (-k)
theorem minus_bd {a:Option Int} (h:inB 1125899906842624 a):(Z8 (bd a)).1 = negB a:=by
 cases a with
 | none => clear h;decide
 | some k =>
  have hk : -1125899906842624≤k∧k≤1125899906842624:=h
  have e1:ZF (bd (some k)) = true:=rfl
  have e2:Z0U 0 (bd (some k)).N = (0 - k,0):=by
   rw [show (bd (some k)).N = k from rfl,subF (by unfold In64;omega) (by unfold In64;omega)]
   rcases fit_or (0 - k) with ⟨_,h⟩ | ⟨h,_⟩
   ·exact h
   ·unfold In64 at h;omega
  unfold Z8;rw [e1,e2];simp only [YD,cond_false,bne_self_eq_false]
  show Bound.mk (IntKind.i8.wrap (0 - 0)) (0 - k) = Bound.mk 0 (-k)
  rw [show IntKind.i8.wrap (0 - 0) = 0 by decide,Int.zero_sub]
theorem bound_bd {d:Int} (h : -1099511627776≤d∧d≤1099511627776):∃ a,ZCH d = bd a∧inB 1099511627776 a∧∀ z,(d = -1099511627776∨d≤-z)→ole (some z) a:=by
 unfold ZCH
 split
 ·exact ⟨none,rfl,trivial,fun _ _ => trivial⟩
 ·refine ⟨some (-d),rfl,?_,fun z hz => ?_⟩
  ·show -1099511627776≤-d∧-d≤1099511627776
   omega
  ·show z≤-d
   omega
section
variable {f:Form}
theorem ticks_bd (hl:Lim f) (hr:RightF f) (hsm:Z9J f) {r:Range} (ho:Z52 r):∃ lo hi a b,Z1g f r = some (lo,hi)∧hi = bd a∧(Z8 lo).1 = bd b∧inB 1099511627776 a∧inB 1099511627776 b ∧
  ∀ x y i k,Bears f i x→Bears f k y→inRg r (k - i)→ole (some (y - x)) a∧ole (some (x - y)) b:=by
 obtain ⟨lo,hi,e,h1,h2⟩:=ticks_eq hl hr hsm (r:=r) ⟨by rw [ZAr];exact ho.1,by rw [ZAr];exact ho.2,trivial,trivial⟩
 have hH:∃ a,hi = bd a∧inB 1099511627776 a∧∀ x y i k,Bears f i x→Bears f k y→inRg r (k - i)→ole (some (y - x)) a:=by
  rcases h2 with ⟨rfl,_⟩ | ⟨d,rfl,q1,q2⟩
  ·exact ⟨none,rfl,trivial,fun _ _ _ _ _ _ _ => trivial⟩
  ·obtain ⟨a,p1,p2,p3⟩:=bound_bd ⟨q1.1,q1.2.1⟩
   refine ⟨a,p1,p2,fun x y i k hx hy hin => p3 _ ?_⟩
   have:=low_sound hr.shape hy hx q1 (by have:=hin.2 q2;omega)
   omega
 have hL:∃ b,(Z8 lo).1 = bd b∧inB 1099511627776 b∧∀ x y i k,Bears f i x→Bears f k y→inRg r (k - i)→ole (some (x - y)) b:=by
  rcases h1 with ⟨rfl,_⟩ | ⟨d,rfl,q1,q2⟩
  ·exact ⟨none,by decide,trivial,fun _ _ _ _ _ _ _ => trivial⟩
  ·obtain ⟨b,p1,p2,p3⟩:=bound_bd ⟨q1.1,q1.2.1⟩
   refine ⟨b,by rw [ZCX ⟨q1.1,q1.2.1⟩];exact p1,p2,fun x y i k hx hy hin => p3 _ ?_⟩
   have:=low_sound hr.shape hx hy q1 (hin.1 q2)
   omega
 obtain ⟨a,a1,a2,a3⟩:=hH
 obtain ⟨b,b1,b2,b3⟩:=hL
 exact ⟨lo,hi,a,b,e,a1,b1,a2,b2,fun x y i k hx hy hin => ⟨a3 x y i k hx hy hin,b3 x y i k hx hy hin⟩⟩
noncomputable def Z5u (f:Form) (a b:Int):Int × Bool:=(Z0n f a b).getD (0,false)
theorem ZAZ (hl:Lim f) (hs:Shape f) (a b:Int):Z0n f a b = some (Z5u f a b)∧((Z5u f a b).2 = true→∃ i k,Bears f i a∧Bears f k b∧(Z5u f a b).1 = k - i):=by
 obtain ⟨x,y,_,_,h1,h2,e⟩:=distance_eq hl hs a b
 have ed:Z5u f a b = if x.2 = true∧y.2 = true then (y.1 - x.1,true) else (0,false):=by unfold Z5u;rw [e];rfl
 refine ⟨by rw [ed];exact e,fun h => ?_⟩
 rw [ed] at h ⊢
 split at h
 ·rename_i hc;rw [if_pos hc];exact ⟨x.1,y.1,h1 hc.1,h2 hc.2,rfl⟩
 ·cases h
end
variable {n:Net}
noncomputable def Z4q (n:Net) (c:Con):Form:=n.Forms.getD c.Form.toNat (Form.mk 0 0 [] [])
theorem form_at {c:Con} (h:0≤c.Form∧c.Form < n.Forms.length):at? n.Forms c.Form = some (Z4q n c)∧Z4q n c ∈ n.Forms:=by
 have hlt:c.Form.toNat < n.Forms.length:=by omega
 have e:Z4q n c = n.Forms[c.Form.toNat]:=by unfold Z4q;simp [YJ,hlt]
 rw [e]
 exact ⟨at?_lt h.1 h.2,YE hlt⟩
def metS (n:Net) (E:Nat→Int) (c:Con):Prop:=(Z5u (Z4q n c) (E c.X.toNat) (E c.Y.toNat)).2 = true∧inRg c.Range (Z5u (Z4q n c) (E c.X.toNat) (E c.Y.toNat)).1
def Z3s (n:Net) (E:Nat→Int):Prop:=∀ c ∈ n.Cons,metS n E c
theorem set_if {v:Nat} {M:MF} {i j:Nat} {a:Option Int} (hi:i < v) (hj:j < v) :
  ((at? (Mat v M) (i:Int)).bind fun x5 => (at? x5 (j:Int)).bind fun x6 => (bif (Z0O (bd a) x6) then (at? (Mat v M) (i:Int)).bind fun x7 => (at? x7 (j:Int)).bind fun x8 => some ((Mat v M).set ((i:Int)).toNat (x7.set ((j:Int)).toNat (bd a))) else some (Mat v M))) = some (Mat v (setM M i j a)):=by
 simp only [Z67 hi,Z4m hj,Y0,less_bd]
 unfold setM
 rw [ZCJ]
 cases h:olt a (M i j) with
 | true =>
  simp only [cond_true,if_true];rw [Mat_set']
 | false =>
  simp only [cond_false];have:(if false = true then a else M i j) = M i j:=by simp
  rw [this]
  congr 1
  refine Z6I fun a b _ _ => ?_
  unfold updM
  split
  ·rename_i hh;rw [hh.1,hh.2]
  ·rfl
theorem leM_set {v:Nat} {Y M:MF} {i j:Nat} {a:Option Int} (h:leM v Y M) (ha:ole (Y i j) a) (hi:i < v) (hj:j < v):leM v Y (setM M i j a):=by
 intro p q hp hq
 unfold setM updM
 split
 ·rename_i hh;rw [hh.1,hh.2];exact ole_min ha (h i j hi hj)
 ·exact h p q hp hq
theorem newS_eq {v:Nat} (h:v≤24):Z2s (v:Int) = some (Mat v newM,0):=by
 have key:Z4C (v:Int) = some (Mat v newM,0):=by
  by_cases h0:v = 0
  ·subst h0;unfold Z4C;rw [ZQ (by omega),ZQ (by omega),Bool.or_self,cond_false]
   have hnew:new? 24 ((0:Nat):Int) ([] : List Bound) = some []:=by
    unfold new?;rw [if_pos ⟨by omega,by simp⟩]
    rfl
   rw [hnew,Y0,Z1k];unfold Z4C.s0;rw [ZQ (by simp),cond_false]
   rfl
  ·exact stp_New_eq (by omega) h
 have e:Z2s (v:Int) = Z4C (v:Int):=by
  unfold Z2s Z4C;have:((decide ((v:Int) < 0)) || (decide ((v:Int) > 24))) = false:=by
   rw [ZQ (by omega),ZQ (by omega)]
   rfl
  rw [this,cond_false,cond_false]
  rfl
 rw [e,key]
theorem prop_ticks_eq (h:NetI n):∃ (v:Nat) (M:MF),n.Vars = v∧v≤8∧Z1N n = some (Mat v M)∧BdM v M 1099511627776∧∀ E,Z3s n E→leM v (tm E) M:=by
 obtain ⟨v,hv⟩ : ∃ v:Nat,n.Vars = v:=⟨n.Vars.toNat,by have:=h.vars.1;omega⟩
 have hv8:v≤8:=by have:=h.vars.2;omega
 have hnc:=h.nc
 have key:=Z0N (step:=Z1N.s0 n) (I:=fun s => ∃ (k:Nat) (A:MF),s = ((k:Int),Mat v A)∧k≤n.Cons.length∧BdM v A 1099511627776∧∀ E,Z3s n E→leM v (tm E) A) (fun s => n.Cons.length - s.1.toNat)
  (fun r => ∃ A,r = Mat v A∧BdM v A 1099511627776∧∀ E,Z3s n E→leM v (tm E) A) ?_ (0,Mat v newM) ⟨0,newM,rfl,YM _,fun i j hi hj => ZBH (newM_bd v i j hi hj) (by omega),?_⟩
 ·obtain ⟨r,e,A,rfl,h1,h2⟩:=key
  refine ⟨v,A,hv,hv8,?_,h1,h2⟩;unfold Z1N;rw [hv,newS_eq (by omega)]
  simp only [Y0];rw [e]
  rfl
 ·rintro _ ⟨k,A,rfl,hk,hB,hA⟩;unfold Z1N.s0;simp only []
  by_cases hlt:k < n.Cons.length
  ·rw [ZP (show (k:Int) < (n.Cons.length:Int) by omega),cond_true,at?_nat hlt]
   have hmem:n.Cons[k] ∈ n.Cons:=YE hlt
   obtain ⟨⟨x0,x1⟩,⟨y0,y1⟩,hf,hsc,h64⟩:=h.cons _ hmem
   obtain ⟨f1,f2⟩:=form_at hf
   obtain ⟨g1,g2,g3,_⟩:=h.forms _ f2
   obtain ⟨lo,hi,a,b,e1,rfl,e3,ba,bb,hs⟩:=ticks_bd g1 g2 g3 h64
   obtain ⟨X,hX⟩ : ∃ X:Nat,n.Cons[k].X = X:=⟨n.Cons[k].X.toNat,by omega⟩
   obtain ⟨Y,hY⟩ : ∃ Y:Nat,n.Cons[k].Y = Y:=⟨n.Cons[k].Y.toNat,by omega⟩
   have hXv:X < v:=by omega
   have hYv:Y < v:=by omega
   simp only [Y0,f1,e1,hX,hY,e3];have s1:=set_if (M:=A) (a:=a) hXv hYv
   have s2:=set_if (M:=setM A X Y a) (a:=b) hYv hXv
   refine .inl ⟨(((k + 1:Nat):Int),Mat v (setM (setM A X Y a) Y X b)),?_,⟨k + 1,_,rfl,hlt,setM_bd (setM_bd hB hXv hYv ba) hYv hXv bb,fun E hE => ?_⟩,?_⟩
   ·rw [s1];simp only [Y0];rw [s2];simp only [Y0];rw [Z9 (by omega)]
    push_cast
    rfl
   ·obtain ⟨m1,m2⟩:=hE _ hmem
    obtain ⟨i,kk,b1,b2,b3⟩:=(ZAZ g1 g2.shape _ _).2 m1
    rw [b3] at m2;obtain ⟨o1,o2⟩:=hs _ _ _ _ b1 b2 m2
    have ex:n.Cons[k].X.toNat = X:=by omega
    have ey:n.Cons[k].Y.toNat = Y:=by omega
    rw [ex,ey] at o1 o2;exact leM_set (leM_set (hA E hE) o1 hXv hYv) o2 hYv hXv
   ·simp only [];omega
  ·have:k = n.Cons.length:=by omega
   subst this;rw [ZQ (by omega),cond_false]
   exact .inr ⟨_,rfl,A,rfl,hB,hA⟩
 ·intro E _ i j hi hj;unfold newM tm
  split
  ·rename_i hij;subst hij
   show E i - E i≤0
   omega
  ·trivial
theorem closeE_eq {v:Nat} {M:MF} (hv:v≤8) (hB:BdM v M 1099511627776) :
  (∃ C,Z4D (Mat v M) = some (Mat v C,true,0)∧BdM v C 1125899906842624∧∀ E,leM v (tm E) M→leM v (tm E) C)∨(Z4D (Mat v M) = some ([],false,0)∧∀ E,¬ leM v (tm E) M):=by
 by_cases h0:v = 0
 ·subst h0;exact .inl ⟨M,rfl,fun i j hi => absurd hi (Y0h _),fun E _ i j hi => absurd hi (Y0h _)⟩
 ·have hne:(Mat v M).isEmpty = false:=by
   have:=Z4B (n:=v) (M:=M)
   cases h:Mat v M with
   | nil => rw [h] at this;simp at this;omega
   | cons a l => rfl
  have hp:∀ k,k≤v→(1099511627776:Int) * 2 ^ k≤1125899906842624:=fun k hk => by
   have h3:(2:Nat) ^ k≤2 ^ 8:=Nat.pow_le_pow_right (by omega) (by omega)
   have h4:((2 ^ k:Nat):Int) = (2:Int) ^ k:=by push_cast;rfl
   omega
  unfold Z4D;rw [hne,cond_false]
  rcases close_eq2 (by omega) (by omega) (fun k hk => Int.le_trans (hp k (by omega)) (by omega)) (by omega) (by omega) hB with ⟨C,e,hC⟩ | ⟨e,hN⟩
  ·exact .inl ⟨C,e,fun i j hi hj => ZBH (hC.bd i j hi hj) (hp v (YB _)),fun E hE => hC.gr _ tm_tri tm_diag hE⟩
  ·exact .inr ⟨e,fun E hE => hN _ tm_tri tm_diag hE⟩
end Go.Dn

namespace Go.Dn
open Go
variable {n:Net} {v:Nat} {C:MF}
theorem bad_bd (a b:Option Int):bad (negB a) (bd b) = false:=by
 cases a <;> cases b <;> rfl
theorem prop_back_eq (h:NetI n) {c:Con} (hc:c ∈ n.Cons) (hv:n.Vars = v) (hB:BdM v C 1125899906842624) {N:Net} (hF:N.Forms = n.Forms) :
  ∃ r ok,Z4X N c (Mat v C) = some (r,ok)∧(ok = true→Z3j r c.Range∧Z47 r∧Z52 r)∧∀ E,leM v (tm E) C→metS n E c→ok = true∧inRg r (Z5u (Z4q n c) (E c.X.toNat) (E c.Y.toNat)).1:=by
 obtain ⟨⟨x0,x1⟩,⟨y0,y1⟩,hf,hsc,h64⟩:=h.cons c hc
 obtain ⟨f1,f2⟩:=form_at hf
 obtain ⟨g1,g2,g3,_⟩:=h.forms _ f2
 obtain ⟨X,hX⟩ : ∃ X:Nat,c.X = X:=⟨c.X.toNat,by omega⟩
 obtain ⟨Y,hY⟩ : ∃ Y:Nat,c.Y = Y:=⟨c.Y.toNat,by omega⟩
 have hXv:X < v:=by omega
 have hYv:Y < v:=by omega
 have ex:c.X.toNat = X:=by omega
 have ey:c.Y.toNat = Y:=by omega
 have hbad:=bad_bd (C Y X) (C X Y)
 obtain ⟨r1,ok1,e1,s1⟩:=Z9C g1 g2 g3.few hbad
 have hbig:Z52 r1:=by
  obtain ⟨r2,ok2,e2,b2⟩:=ZCu g1 g2 g3.few hbad
  rw [e1] at e2;simp only [Y5,Y3] at e2;rw [e2.1];exact b2
 have hsound:∀ E,leM v (tm E) C→metS n E c→ok1 = true∧inRg r1 (Z5u (Z4q n c) (E c.X.toNat) (E c.Y.toNat)).1:=fun E hE hm => by
  obtain ⟨m1,m2⟩:=hm
  obtain ⟨i,k,b1,b2,b3⟩:=(ZAZ g1 g2.shape _ _).2 m1
  rw [ex] at b1;rw [ey] at b2;have l1:=hE Y X hYv hXv
  have l2:=hE X Y hXv hYv
  unfold tm at l1 l2;obtain ⟨rr,e3,sc⟩:=range_sound g1 g2 g3 hbad b1 b2 (fun hI => by
   cases hh:C Y X with
   | none => rw [hh] at hI;cases hI
   | some q =>
    rw [hh] at l1;have l1:E X - E Y≤q:=l1
    show -q≤E Y - E X
    omega) (fun hI => by
   cases hh:C X Y with
   | none => rw [hh] at hI;cases hI
   | some q =>
    rw [hh] at l2;exact l2)
  rw [e1] at e3;simp only [Y5,Y3] at e3;refine ⟨e3.2.1,?_⟩;rw [e3.1,b3];unfold Z1m at sc;simp only [Y9,Yn,YQ,decide_eq_true_eq] at sc;refine ⟨fun hh => ?_,fun hh => ?_⟩
  ·rcases sc.1 with q | q
   ·rw [hh] at q;cases q
   ·exact q
  ·rcases sc.2 with q | q
   ·rw [hh] at q;cases q
   ·exact q
 have hpre:Z4X N c (Mat v C) = (bif ((!ok1) || ((0:Int) != 0)) then some ((Range.mk 0 0 false false),false) else (Z3J c.Range r1).bind fun x7 => some (x7.1,x7.2)):=by
  unfold Z4X;rw [hX,hY,hF];simp only [Z67 hYv,Z67 hXv,Z4m hXv,Z4m hYv,Y0,f1,minus_bd (hB Y X hYv hXv),e1]
 rw [hpre]
 cases ok1 with
 | false =>
  refine ⟨_,false,rfl,nofun,fun E hE hm => ?_⟩
  have:=(hsound E hE hm).1
  cases this
 | true =>
  rw [prop_Meet_eq];simp only [YD,bne_self_eq_false,Y0T,cond_false,Y0];refine ⟨_,_,rfl,fun hok => ?_,fun E hE hm => ?_⟩
  ·obtain ⟨p1,p2,p3,p4,p5⟩:=ZDW hok
   exact ⟨p1,p4 hsc,p5 h64 hbig⟩
  ·obtain ⟨_,q2⟩:=hsound E hE hm
   have hy:=meet_yes hm.2 q2
   exact ⟨hy,(ZDW hy).2.2.1 _ hm.2 q2⟩
structure StepR (n n':Net):Prop where
 vars:n'.Vars = n.Vars
 forms:n'.Forms = n.Forms
 len:n'.Cons.length = n.Cons.length
 cons:∀ (j:Nat) (c:Con),n.Cons[j]? = some c→∃ r,n'.Cons[j]? = some (Con.mk c.X c.Y c.Form r)∧Z3j r c.Range∧Z47 r∧Z52 r
theorem StepR.back {n n':Net} (h:StepR n n') {j:Nat} {c':Con} (hj:n'.Cons[j]? = some c'):∃ c,n.Cons[j]? = some c∧∃ r,c' = Con.mk c.X c.Y c.Form r∧Z3j r c.Range∧Z47 r∧Z52 r:=by
 have hlt:=(List.getElem?_eq_some_iff.1 hj).1
 have hlt':j < n.Cons.length:=by rw [← h.len];exact hlt
 obtain ⟨r,q1,q2⟩:=h.cons j _ (Y2 hlt')
 rw [hj,Y5] at q1
 exact ⟨_,Y2 hlt',r,q1,q2⟩
theorem StepR.netI {n n':Net} (h:StepR n n') (hn:NetI n):NetI n':=by
 refine ⟨by rw [h.vars];exact hn.vars,fun f hf => hn.forms f (by rw [← h.forms];exact hf),by rw [h.forms];exact hn.nf,by rw [h.len];exact hn.nc,fun c' hc' => ?_⟩
 obtain ⟨j,hj⟩:=YC hc'
 obtain ⟨c,q1,r,rfl,q2,q3,q4⟩:=h.back hj
 obtain ⟨p1,p2,p3,_,_⟩:=hn.cons c (Y7 q1)
 rw [h.vars,h.forms]
 exact ⟨p1,p2,p3,q3,q4⟩
theorem formOf_eq {n n':Net} (h:n'.Forms = n.Forms) {c c':Con} (hc:c'.Form = c.Form):Z4q n' c' = Z4q n c:=by
 unfold Z4q
 rw [h,hc]
theorem StepR.holds {n n':Net} (h:StepR n n') {E:Nat→Int} (hE:Z3s n' E):Z3s n E:=by
 intro c hc
 obtain ⟨j,hj⟩:=YC hc
 obtain ⟨r,q1,q2,_⟩:=h.cons j c hj
 obtain ⟨m1,m2⟩:=hE _ (Y7 q1)
 rw [formOf_eq h.forms (c:=c) (c':=Con.mk c.X c.Y c.Form r) rfl] at m1 m2
 exact ⟨m1,inRg_mono q2 m2⟩
theorem StepR.refl {n:Net} (h:NetI n):StepR n n :=
 ⟨rfl,rfl,rfl,fun j c hj => ⟨c.Range,hj,narrow_refl _,(h.cons c (Y7 hj)).2.2.2⟩⟩
theorem StepR.trans {a b c:Net} (h1:StepR a b) (h2:StepR b c):StepR a c:=by
 refine ⟨h2.vars.trans h1.vars,h2.forms.trans h1.forms,h2.len.trans h1.len,fun j x hj => ?_⟩
 obtain ⟨r,q1,q2,_⟩:=h1.cons j x hj
 obtain ⟨r',p1,p2,p3⟩:=h2.cons j _ q1
 exact ⟨r',p1,narrow_trans p2 q2,p3⟩
theorem round_loop (h:NetI n) (hv:n.Vars = v) (hB:BdM v C 1125899906842624) :
  (∃ L,loopO (Z04.s1 n (Mat v C,true,0) n.Cons) (0,n.Cons) = some (.go L)∧StepR n (Net.mk n.Vars n.Forms L)∧∀ E,leM v (tm E) C→Z3s n E→Z3s (Net.mk n.Vars n.Forms L) E) ∨
  (loopO (Z04.s1 n (Mat v C,true,0) n.Cons) (0,n.Cons) = some (.ret ((Net.mk 0 [] []),[],false))∧∀ E,leM v (tm E) C→¬ Z3s n E):=by
 have hnc:=h.nc
 have key:=Z0N (step:=Z04.s1 n (Mat v C,true,0) n.Cons)
  (I:=fun s => ∃ (k:Nat) (L:List Con),s = ((k:Int),L)∧k≤n.Cons.length∧L.length = n.Cons.length ∧
   (∀ (j:Nat) (c:Con),n.Cons[j]? = some c→j < k→∃ r,L[j]? = some (Con.mk c.X c.Y c.Form r)∧(Z3j r c.Range∧Z47 r∧Z52 r)∧∀ E,leM v (tm E) C→Z3s n E→inRg r (Z5u (Z4q n c) (E c.X.toNat) (E c.Y.toNat)).1)∧∀ j,k≤j→L[j]? = n.Cons[j]?)
  (fun s => n.Cons.length - s.1.toNat)
  (fun r => (∃ L,r = .go L∧L.length = n.Cons.length∧∀ (j:Nat) (c:Con),n.Cons[j]? = some c→∃ r,L[j]? = some (Con.mk c.X c.Y c.Form r)∧(Z3j r c.Range∧Z47 r∧Z52 r)∧∀ E,leM v (tm E) C→Z3s n E→inRg r (Z5u (Z4q n c) (E c.X.toNat) (E c.Y.toNat)).1) ∨
   (r = .ret ((Net.mk 0 [] []),[],false)∧∀ E,leM v (tm E) C→¬ Z3s n E)) ?_ (0,n.Cons) ⟨0,n.Cons,rfl,YM _,rfl,fun j c _ hj => absurd hj (Y0h _),fun _ _ => rfl⟩
 ·obtain ⟨r,e,⟨L,rfl,q1,q2⟩ | ⟨rfl,q⟩⟩:=key
  ·have hS:StepR n (Net.mk n.Vars n.Forms L):=⟨rfl,rfl,q1,fun j c hj => by
    obtain ⟨r,p1,p2,_⟩:=q2 j c hj
    exact ⟨r,p1,p2⟩⟩
   refine .inl ⟨L,e,hS,fun E hE hH c' hc' => ?_⟩
   obtain ⟨j,hj⟩:=YC hc'
   obtain ⟨c,p1,_⟩:=hS.back hj
   obtain ⟨r,p3,_,p5⟩:=q2 j c p1
   have hj:L[j]? = some c':=hj
   rw [hj,Y5] at p3;subst p3;have hm:=hH c (Y7 p1)
   exact ⟨hm.1,p5 E hE hH⟩
  ·exact .inr ⟨e,q⟩
 ·rintro _ ⟨k,L,rfl,hk,hL,hdone,hrest⟩;unfold Z04.s1;simp only []
  by_cases hlt:k < n.Cons.length
  ·rw [ZP (show (k:Int) < (n.Cons.length:Int) by omega),cond_true]
   have hkL:k < L.length:=by omega
   have hLk:L[k] = n.Cons[k]:=by
    have:=hrest k (YB _)
    rw [Y2 hkL,Y2 hlt,Y5] at this;exact this
   have hmem:n.Cons[k] ∈ n.Cons:=YE hlt
   obtain ⟨r,ok,e,p1,p2⟩:=prop_back_eq h hmem hv hB (N:=Net.mk n.Vars n.Forms L) rfl
   rw [at?_nat hkL,hLk];simp only [Y0,e];cases ok with
   | false =>
    rw [Yj,cond_true];refine .inr ⟨_,rfl,.inr ⟨rfl,fun E hE hH => ?_⟩⟩
    have:=(p2 E hE (hH _ hmem)).1
    cases this
   | true =>
    rw [YD,cond_false];refine .inl ⟨_,rfl,⟨k + 1,L.set k (Con.mk n.Cons[k].X n.Cons[k].Y n.Cons[k].Form r),?_,hlt,by simpa using hL,fun j c hj hjk => ?_,fun j hj => ?_⟩,?_⟩
    ·rw [Z9 (by omega),YP]
     push_cast
     rfl
    ·rcases YI j k with hh | hh
     ·obtain ⟨r',q1,q2⟩:=hdone j c hj hh
      refine ⟨r',?_,q2⟩;rw [List.getElem?_set_ne (by omega)]
      exact q1
     ·have hjk':j = k:=by omega
      subst hjk';rw [Y2 hlt,Y5] at hj;subst hj;exact ⟨r,by rw [List.getElem?_set_self hkL],p1 rfl,fun E hE hH => (p2 E hE (hH _ hmem)).2⟩
    ·rw [List.getElem?_set_ne (by omega)]
     exact hrest j (by omega)
    ·simp only [];rw [Z9 (by omega)]
     omega
  ·have hke:k = n.Cons.length:=by omega
   rw [ZQ (by omega),cond_false]
   exact .inr ⟨_,rfl,.inl ⟨L,rfl,hL,fun j c hj => hdone j c hj (by have:=(List.getElem?_eq_some_iff.1 hj).1;omega)⟩⟩
theorem prop_round_eq (h:NetI n):∃ n' d ok,Z04 n = some (n',d,ok) ∧
  (ok = true→StepR n n'∧∃ (v:Nat) (C:MF),n.Vars = v∧v≤8∧d = Mat v C∧BdM v C 1125899906842624∧∀ E,Z3s n E→Z3s n' E∧leM v (tm E) C)∧(ok = false→∀ E,¬ Z3s n E):=by
 obtain ⟨v,M,hv,hv8,e1,hB1,hM⟩:=prop_ticks_eq h
 unfold Z04
 rw [e1]
 simp only [Y0]
 rcases closeE_eq hv8 hB1 with ⟨C,e2,hB,hC⟩ | ⟨e2,hN⟩
 ·rw [e2];simp only [Y0,YD,cond_false];cases hce:n.Cons.isEmpty with
  | true =>
   have hnil:n.Cons = []:=List.isEmpty_iff.1 hce
   have hl:loopO (Z04.s0 n) () = some ():=by
    rw [Z1k];unfold Z04.s0;rw [hnil,ZQ (by simp),cond_false]
   rw [cond_true,hl];refine ⟨n,_,true,rfl,fun _ => ⟨StepR.refl h,v,C,hv,hv8,rfl,hB,fun E hE => ⟨hE,hC E (hM E hE)⟩⟩,nofun⟩
  | false =>
   rw [cond_false];have hcl:Z0m n.Cons = some n.Cons:=by
    unfold Z0m;have hnc:=h.nc
    have hs:∃ u,some? n.Cons = some u:=by
     cases hh:n.Cons with
     | nil => rw [hh] at hce;cases hce
     | cons a l => exact ⟨(),rfl⟩
    obtain ⟨u,hu⟩:=hs
    rw [hu,Y0,app?_ok (by simp [Z5T];omega)]
    rfl
   rw [hcl];simp only [Y0]
   rcases round_loop h hv hB with ⟨L,e3,hS,hL⟩ | ⟨e3,hN⟩
   ·rw [e3];exact ⟨_,_,true,rfl,fun _ => ⟨hS,v,C,hv,hv8,rfl,hB,fun E hE => ⟨hL E (hC E (hM E hE)) hE,hC E (hM E hE)⟩⟩,nofun⟩
   ·rw [e3];exact ⟨_,_,false,rfl,nofun,fun _ E hE => hN E (hC E (hM E hE)) hE⟩
 ·rw [e2];exact ⟨_,_,false,rfl,nofun,fun _ E hE => hN E (hM E hE)⟩
end Go.Dn

namespace Go.Dn
open Go
theorem con_beq (x y:Con):((x.X == y.X) && ((x.Y == y.Y) && ((x.Form == y.Form) && (((x.Range.Low == y.Range.Low) && ((x.Range.High == y.Range.High) && ((x.Range.HasLow == y.Range.HasLow) && ((x.Range.HasHigh == y.Range.HasHigh) && true)))) && true)))) = decide (x = y):=by
 obtain ⟨a1,a2,a3,b1,b2,b3,b4⟩:=x
 obtain ⟨c1,c2,c3,d1,d2,d3,d4⟩:=y
 rw [Bool.eq_iff_iff]
 simp
theorem equal_con {a b:List Con} (hl:a.length = b.length) (hs:a.length≤1000):Ze a b = some (decide (a = b)):=by
 unfold Ze
 rw [bne_f (by omega),cond_false]
 have key:=Z2C (l:=a) (step:=Ze.s0 a b) (good:=fun k x => b[k]? = some x) (yes:=.go ()) (no:=.ret false) ?_ ?_
 ·rcases key with ⟨h1,h2⟩ | ⟨h1,h2⟩
  ·rw [h1];have:a = b:=by
    apply Y0R;intro k
    by_cases hk:k < a.length
    ·rw [Y2 hk];exact (h2 k _ (Y2 hk)).symm
    ·rw [YS (by omega),YS (by omega)]
   rw [ZP this]
   rfl
  ·rw [h1];have:¬ a = b:=fun h => h2 fun k x hx => by rw [← h];exact hx
   rw [ZQ this]
   rfl
 ·intro k x hk _;obtain ⟨hkl,rfl⟩:=List.getElem?_eq_some_iff.1 hk
  have hkb:k < b.length:=by omega
  unfold Ze.s0;rw [ZP (show (k:Int) < (a.length:Int) by omega),cond_true,at?_nat hkl,Y0,at?_nat hkb,Y0,con_beq,Y2 hkb]
  by_cases h:a[k] = b[k]
  ·rw [ZP h,YD,cond_false,Z9 (by omega),h]
   exact .inl ⟨rfl,rfl⟩
  ·rw [ZQ h,Yj,cond_true];exact .inr ⟨rfl,fun hh => h (Option.some.inj hh).symm⟩
 ·unfold Ze.s0;rw [ZQ (by omega),cond_false]
noncomputable def rF (n:Net):Net × List (List Bound) × Bool:=(Z04 n).getD (Net.mk 0 [] [],[],false)
theorem rF_eq {n:Net} (h:NetI n):Z04 n = some (rF n) ∧
  ((rF n).2.2 = true→StepR n (rF n).1∧∃ (v:Nat) (C:MF),n.Vars = v∧v≤8∧(rF n).2.1 = Mat v C∧BdM v C 1125899906842624∧∀ E,Z3s n E→Z3s (rF n).1 E∧leM v (tm E) C)∧((rF n).2.2 = false→∀ E,¬ Z3s n E):=by
 obtain ⟨n',d,ok,e,h1,h2⟩:=prop_round_eq h
 have:rF n = (n',d,ok):=by unfold rF;rw [e];rfl
 rw [this]
 exact ⟨e,h1,h2⟩
noncomputable def goR:Nat→Net→List (List Bound)→Int→Spread
 | 0,n,d,r => Spread.mk 3 n d r
 | k + 1,n,d,r => if (rF n).2.2 = true then (if (rF n).1.Cons = n.Cons then Spread.mk 1 (rF n).1 (rF n).2.1 (r + 1) else goR k (rF n).1 (rF n).2.1 (r + 1)) else Spread.mk 2 (Net.mk 0 [] []) [] (r + 1)
theorem run_loop {R:Nat} (hR:R≤1000):∀ (k:Nat) (n:Net) (d:List (List Bound)) (r:Nat),NetI n→r + k = R →
  ((loopO (Z0W.s0 (R:Int)) (3,n.Vars,n.Forms,n.Cons,d,(r:Int))).bind fun (y1:Jx (Int × Int × (List Form) × (List Con) × (List (List Bound)) × Int) (Spread × Int)) => y1.elim (fun r' => some r') fun a4 => some ((Spread.mk a4.1 (Net.mk a4.2.1 a4.2.2.1 a4.2.2.2.1) a4.2.2.2.2.1 a4.2.2.2.2.2),(0:Int))) = some (goR k n d (r:Int),0):=by
 intro k
 induction k with
 | zero =>
  intro n d r hn hr;have:r = R:=by omega
  subst this;rw [Z1k];unfold Z0W.s0;simp only [];rw [ZQ (by omega),Y0Q,cond_false]
  rfl
 | succ k ih =>
  intro n d r hn hr;obtain ⟨e,h1,h2⟩:=rF_eq hn
  have hstep:Z0W.s0 (R:Int) (3,n.Vars,n.Forms,n.Cons,d,(r:Int)) = if (rF n).2.2 = true then (if (rF n).1.Cons = n.Cons then some (.inl (1,(rF n).1.Vars,(rF n).1.Forms,(rF n).1.Cons,(rF n).2.1,((r + 1:Nat):Int))) else some (.inl (3,(rF n).1.Vars,(rF n).1.Forms,(rF n).1.Cons,(rF n).2.1,((r + 1:Nat):Int)))) else some (.inr (.ret (Spread.mk 2 (Net.mk 0 [] []) [] ((r + 1:Nat):Int),0))):=by
   have hw:w64 ((r:Int) + 1) = ((r + 1:Nat):Int):=by rw [Z9 (by omega)];push_cast;rfl
   unfold Z0W.s0;simp only [];rw [ZP (show (r:Int) < (R:Int) by omega),show ((3:Int) == 3) = true from rfl,Y00,cond_true,e]
   simp only [Y0,hw];cases hok:(rF n).2.2 with
   | false => rfl
   | true =>
    have hlen:=(h1 hok).1.len
    rw [YD,cond_false,equal_con hlen (by have:=hn.nc;omega)]
    simp only [Y0,if_true]
    by_cases heq:(rF n).1.Cons = n.Cons
    ·rw [ZP heq,if_pos heq];rfl
    ·rw [ZQ heq,if_neg heq];rfl
  rw [Z1k,hstep]
  show _ = some (if (rF n).2.2 = true then (if (rF n).1.Cons = n.Cons then Spread.mk 1 (rF n).1 (rF n).2.1 ((r:Int) + 1) else goR k (rF n).1 (rF n).2.1 ((r:Int) + 1)) else Spread.mk 2 (Net.mk 0 [] []) [] ((r:Int) + 1),0)
  have hc:((r + 1:Nat):Int) = (r:Int) + 1:=by push_cast;rfl
  cases hok:(rF n).2.2 with
  | false =>
   rw [hc]
   rfl
  | true =>
   simp only [if_true]
   by_cases heq:(rF n).1.Cons = n.Cons
   ·rw [if_pos heq,if_pos heq];simp only [];rw [Z1k];have:Z0W.s0 (R:Int) (1,(rF n).1.Vars,(rF n).1.Forms,(rF n).1.Cons,(rF n).2.1,((r + 1:Nat):Int)) = some (.inr (.go (1,(rF n).1.Vars,(rF n).1.Forms,(rF n).1.Cons,(rF n).2.1,((r + 1:Nat):Int)))):=by
     unfold Z0W.s0;simp only [];rw [show ((1:Int) == 3) = false from rfl,Bool.and_false,cond_false]
    rw [this,hc]
    rfl
   ·rw [if_neg heq,if_neg heq];simp only [];have:=ih (rF n).1 (rF n).2.1 (r + 1) ((h1 hok).1.netI hn) (by omega)
    rw [this,hc]
theorem prop_Run_eq {n:Net} (h:NetI n) {k:Nat} (h1:1≤k) (h2:k≤1000):Z0W n (k:Int) = some (goR k n [] 0,0):=by
 unfold Z0W
 rw [h.tag]
 simp only [Y0,bne_self_eq_false,cond_false]
 rw [ZQ (by omega),ZQ (by omega),Bool.or_self,cond_false]
 exact run_loop h2 k n [] 0 h (by omega)
theorem go_facts:∀ (k:Nat) (n:Net) (d:List (List Bound)) (r:Int),NetI n →
  ((goR k n d r).Kind = 2∧(goR k n d r).Ticks = []∧(∀ E,¬ Z3s n E)∧r < (goR k n d r).Rounds∧(goR k n d r).Rounds≤r + k) ∨
  (((goR k n d r).Kind = 1∨((goR k n d r).Kind = 3∧(goR k n d r).Rounds = r + k))∧StepR n (goR k n d r).Net∧(∀ E,Z3s n E→Z3s (goR k n d r).Net E)∧(r≤(goR k n d r).Rounds∧(0 < k→r < (goR k n d r).Rounds)∧(goR k n d r).Rounds≤r + k) ∧
   (0 < k→∃ (v:Nat) (C:MF),n.Vars = v∧v≤8∧(goR k n d r).Ticks = Mat v C∧BdM v C 1125899906842624∧∀ E,Z3s n E→leM v (tm E) C)∧(k = 0→(goR k n d r).Ticks = d)):=by
 intro k
 induction k with
 | zero =>
  intro n d r hn;refine .inr ⟨.inr ⟨rfl,by show r = r + (0:Nat);omega⟩,StepR.refl hn,fun E hE => hE,⟨YZ _,fun h => absurd h (Nat.lt_irrefl _),by show r≤r + (0:Nat);omega⟩,fun h => absurd h (Nat.lt_irrefl _),fun _ => rfl⟩
 | succ k ih =>
  intro n d r hn;obtain ⟨e,h1,h2⟩:=rF_eq hn
  unfold goR;cases hok:(rF n).2.2 with
  | false =>
   simp only [Y6,if_false];refine .inl ⟨trivial,trivial,h2 hok,by omega,by omega⟩
  | true =>
   simp only [if_true];obtain ⟨hS,v,C,hv,hv8,hd,hB,hE⟩:=h1 hok
   by_cases heq:(rF n).1.Cons = n.Cons
   ·simp only [if_pos heq];refine .inr ⟨.inl trivial,hS,fun E hh => (hE E hh).1,⟨by omega,fun _ => by omega,by omega⟩,fun _ => ⟨v,C,hv,hv8,hd,hB,fun E hh => (hE E hh).2⟩,fun h => by omega⟩
   ·simp only [if_neg heq]
    rcases ih (rF n).1 (rF n).2.1 (r + 1) (hS.netI hn) with ⟨q1,q2,q3,q4,q5⟩ | ⟨q1,q2,q3,⟨q4,q5,q6⟩,q7,q8⟩
    ·exact .inl ⟨q1,q2,fun E hh => q3 E (hE E hh).1,by omega,by omega⟩
    ·refine .inr ⟨q1.imp id fun h => ⟨h.1,by omega⟩,hS.trans q2,fun E hh => q3 E (hE E hh).1,⟨by omega,fun _ => by omega,by omega⟩,fun _ => ?_,fun h => by omega⟩
     by_cases h0:0 < k
     ·obtain ⟨v',C',p1,p2,p3,p4,p5⟩:=q7 h0
      exact ⟨v',C',by rw [← hS.vars];exact p1,p2,p3,p4,fun E hh => p5 E (hE E hh).1⟩
     ·exact ⟨v,C,hv,hv8,by rw [q8 (by omega)];exact hd,hB,fun E hh => (hE E hh).2⟩
theorem few_net {n:Net} (hn:n.ok):∃ b,Zq n = some b∧(b = true→NetI n):=by
 obtain ⟨hf,l1,l2⟩:=net_lim hn
 obtain ⟨b0,e0,h0⟩:=few_eq hn
 unfold Zq at e0 ⊢
 cases c1:((decide ((n.Forms.length:Int) > 4) || decide ((n.Cons.length:Int) > 8)) || decide (n.Vars > 8)) with
 | true => exact ⟨false,rfl,nofun⟩
 | false =>
 simp only [Bool.or_eq_false_iff,decide_eq_false_iff_not] at c1
 simp only [cond_false]
 have key:=Z2C (l:=n.Forms) (step:=Zq.s0 n) (good:=fun _ f => ZZ f = some true) (yes:=.go ()) (no:=.ret false) (by
  intro k f hk _;obtain ⟨hkl,rfl⟩:=List.getElem?_eq_some_iff.1 hk
  unfold Zq.s0;rw [ZP (show (k:Int) < n.Forms.length by omega),cond_true,at?_nat hkl]
  simp only [Y0];obtain ⟨b,e,_⟩:=ZCF (hf _ (YE hkl))
  rw [e];simp only [Y0];cases b with
  | false => exact .inr ⟨rfl,by simp⟩
  | true => exact .inl ⟨by rw [YD,cond_false,Z9 (by omega)],rfl⟩) (by
  unfold Zq.s0;rw [ZQ (by omega),cond_false])
 rcases key with ⟨k1,k2⟩ | ⟨k1,_⟩
 ·rw [k1];simp only [Y0,Jx.elim];obtain ⟨e,e2,h2⟩:=tag_Right_all hf l1 l2
  rw [e2];simp only [Y0];refine ⟨_,rfl,fun h => ?_⟩
  obtain ⟨p1,p2,p3⟩:=h2 (eq_of_beq h)
  refine ⟨by omega,fun f hm => ?_,by omega,by omega,fun c hm => ?_⟩
  ·obtain ⟨k,hk⟩:=YC hm
   have hnear:=k2 k f hk
   obtain ⟨b,e,hb⟩:=ZCF (hf f hm)
   rw [hnear,Y5] at e;have hN:=hb e.symm
   exact ⟨hf f hm,(p2 f hm).2,hN.small,(p2 f hm).1⟩
  ·obtain ⟨q1,q2,q3,q4⟩:=p3 c hm
   obtain ⟨_,_,hc⟩:=hn
   obtain ⟨_,_,_,hr⟩:=hc.2 c hm
   exact ⟨q1,q2,q3,q4,by have:=hr.1;rw [ZAr] at this;exact this,by have:=hr.2.1;rw [ZAr] at this;exact this⟩
 ·rw [k1];exact ⟨false,rfl,nofun⟩
end Go.Dn

namespace Go.Dn
open Go
end Go.Dn

namespace Go.Dn
open Go
variable {n:Net} {v:Nat} {E:Nat→Int}
def OwnS (v:Nat) (E:Nat→Int):Prop:=∀ i,i < v→-1099511627776≤E i∧E i≤1099511627776
theorem own_iff (hv:n.Vars = v) (hv8:v≤8):∃ b,Z83 n (vec v E) = some b∧(b = true ↔ OwnS v E):=by
 unfold Z83
 rw [vec_len,beq_t (by omega),cond_true]
 obtain ⟨b,e,i⟩:=ZDd (l:=vec v E) (p:=Z6M) (by rw [vec_len];omega)
 rw [e]
 refine ⟨!b,rfl,?_⟩
 have hmem:∀ x,x ∈ vec v E ↔ ∃ i,i < v∧E i = x:=fun x => by unfold vec;simp
 constructor
 ·intro hb j hj;apply Classical.byContradiction;intro hn;have:b = true:=i.2 ⟨E j,(hmem _).2 ⟨j,hj,rfl⟩,by
   unfold Z6M;simp only [Yn,decide_eq_true_eq];omega⟩
  rw [this] at hb;cases hb
 ·intro h;cases hb:b with
  | false => rfl
  | true =>
   obtain ⟨x,hx,hp⟩:=i.1 hb
   obtain ⟨j,hj,rfl⟩:=(hmem _).1 hx
   have:=h j hj
   unfold Z6M at hp;simp only [Yn,decide_eq_true_eq] at hp;omega
theorem met_iff (h:NetI n) (hv:n.Vars = v) {c:Con} (hc:c ∈ n.Cons):∃ b,Z5U n c (vec v E) = some b∧(b = true ↔ metS n E c):=by
 obtain ⟨⟨x0,x1⟩,⟨y0,y1⟩,hf,hsc,h64⟩:=h.cons c hc
 obtain ⟨f1,f2⟩:=form_at hf
 obtain ⟨g1,g2,g3,_⟩:=h.forms _ f2
 obtain ⟨X,hX⟩ : ∃ X:Nat,c.X = X:=⟨c.X.toNat,by omega⟩
 obtain ⟨Y,hY⟩ : ∃ Y:Nat,c.Y = Y:=⟨c.Y.toNat,by omega⟩
 have ex:c.X.toNat = X:=by omega
 have ey:c.Y.toNat = Y:=by omega
 obtain ⟨e,_⟩:=ZAZ g1 g2.shape (E X) (E Y)
 unfold Z5U metS
 rw [hX,hY,f1,vec_get (show X < v by omega),vec_get (show Y < v by omega)]
 simp only [Y0,e,YP]
 generalize Z5u (Z4q n c) (E X) (E Y) = D
 obtain ⟨d,ok⟩:=D
 cases ok with
 | false => exact ⟨false,rfl,by simp⟩
 | true =>
  simp only [YD,cond_false];unfold inRg;cases h1:(c.Range.HasLow && decide (d < c.Range.Low)) with
  | true =>
   refine ⟨false,rfl,?_⟩;simp only [Y9,decide_eq_true_eq] at h1
   constructor
   ·intro h;cases h
   ·rintro ⟨_,q,_⟩;have:=q h1.1
    omega
  | false =>
   have hlo:c.Range.HasLow = true→c.Range.Low≤d:=fun hh => by
    rw [hh,Y0U] at h1;have:=of_decide_eq_false h1
    omega
   cases h2:(c.Range.HasHigh && decide (d > c.Range.High)) with
   | true =>
    refine ⟨false,rfl,?_⟩;simp only [Y9,decide_eq_true_eq] at h2
    constructor
    ·intro h;cases h
    ·rintro ⟨_,_,q⟩;have:=q h2.1
     omega
   | false =>
    have hhi:c.Range.HasHigh = true→d≤c.Range.High:=fun hh => by
     rw [hh,Y0U] at h2;have:=of_decide_eq_false h2
     omega
    exact ⟨true,rfl,by simp only [true_iff];exact ⟨trivial,hlo,hhi⟩⟩
theorem holds_iff (h:NetI n) (hv:n.Vars = v) (hv8:v≤8):∃ b,Z09 n (vec v E) = some b∧(b = true ↔ OwnS v E∧Z3s n E):=by
 obtain ⟨b,e,hb⟩:=own_iff (n:=n) (E:=E) hv hv8
 cases b with
 | false =>
  refine ⟨false,?_,?_⟩
  ·unfold Z09;rw [e]
   rfl
  ·constructor
   ·intro h;cases h
   ·rintro ⟨h,_⟩;exact hb.2 h
 | true =>
  have hm:∀ c ∈ n.Cons,Z5U n c (vec v E) = some ((Z5U n c (vec v E)).getD false):=fun c hc => by
   obtain ⟨b,e,_⟩:=met_iff (E:=E) h hv hc
   rw [e]
   rfl
  have:=holds_of e (by have:=h.nc;omega) hm
  refine ⟨_,this,?_⟩;rw [decide_eq_true_eq]
  constructor
  ·intro hh;refine ⟨hb.1 rfl,fun c hc => ?_⟩
   obtain ⟨b,e,hi⟩:=met_iff (E:=E) h hv hc
   have h2:=hh c hc
   rw [e] at h2;exact hi.1 h2
  ·rintro ⟨_,hh⟩ c hc;obtain ⟨b,e,hi⟩:=met_iff (E:=E) h hv hc
   rw [e];exact hi.2 (hh c hc)
theorem part20 {x:Int} (h:okI .u8 x):∃ a:Nat,w64 (1 + (w64 (x.tmod 20))) = (a:Int)∧1≤a∧a≤20:=by
 rw [okI_u8] at h
 obtain ⟨i,hi,e⟩:=tmod_nat (x:=x) (n:=20) h.1 (by omega)
 have e:x.tmod 20 = (i:Int):=e
 rw [e,Z9 (x:=(i:Int)) (by omega),Z9 (x:=1 + (i:Int)) (by omega)]
 exact ⟨1 + i,by push_cast;rfl,by omega,by omega⟩
theorem ZDU (n:Net) (ticks:List Int) (rounds:Int) (hn:n.ok) (ht:okL 8 (okI .i64) ticks) (hr:okI .u8 rounds):Z2S n ticks rounds = some true:=by
 have haw:Zz = true:=rfl
 have tok:∀ x ∈ ticks,In64 x:=fun x hx => ht.2 x hx
 obtain ⟨bb,e2,hb2⟩:=few_net hn
 unfold Z2S
 rw [e2]
 simp only [Y0]
 cases bb with
 | false => rw [Yj,cond_true,haw]
 | true =>
  have hN:=hb2 rfl
  obtain ⟨v,hv⟩ : ∃ v:Nat,n.Vars = v:=⟨n.Vars.toNat,by have:=hN.vars.1;omega⟩
  have hv8:v≤8:=by have:=hN.vars.2;omega
  obtain ⟨k,ek,k1,k2⟩:=part20 hr
  have hgiven:∃ E,Z2t n ticks = some (vec v E):=by
   unfold Z2t;have hnew:new? 8 n.Vars (0:Int) = some (List.replicate v 0):=by
    unfold new?;rw [hv,if_pos ⟨by omega,by rw [Z5T];omega⟩,YP]
   rw [hnew,Y0];have hlen:(cpy (List.replicate v (0:Int)) ticks).length = v:=by
    unfold cpy
    simp
    omega
   have:=vec_of (cpy (List.replicate v (0:Int)) ticks)
   rw [hlen] at this;exact ⟨_,by rw [← this]⟩
  obtain ⟨E,hE⟩:=hgiven
  rw [YD,cond_false,hE,ek];simp only [Y0];obtain ⟨b,eb,ib⟩:=holds_iff (E:=E) hN hv hv8
  rw [eb,prop_Run_eq hN k1 (by omega)]
  simp only [Y0];have hfacts:=go_facts k n [] 0 hN
  generalize goR k n [] 0 = x at hfacts ⊢;have hrd:((((0:Int) != 0) || (decide (x.Rounds < 1))) || (decide (x.Rounds > (k:Int)))) = false:=by
   have:0 < x.Rounds∧x.Rounds≤k:=by
    rcases hfacts with ⟨_,_,_,p4,p5⟩ | ⟨_,_,_,⟨_,p5,p6⟩,_⟩
    ·omega
    ·have:=p5 (by omega)
     omega
   rw [ZQ (by omega),ZQ (by omega)]
   rfl
  rw [hrd,cond_false]
  rcases hfacts with ⟨q1,q2,q3,q4,q5⟩ | ⟨q1,q2,q3,⟨q4,q5,q6⟩,q7,q8⟩
  ·have hb:b = false:=by
    cases hb:b with
    | false => rfl
    | true => exact absurd (ib.1 hb).2 (q3 E)
   rw [q1,q2,hb,show ((2:Int) == 2) = true from rfl,cond_true,haw]
   rfl
  ·have hk2:(x.Kind == 2) = false:=by
    rcases q1 with h | ⟨h,_⟩ <;> rw [h] <;> rfl
   have hxN:=q2.netI hN
   obtain ⟨b',eb',ib'⟩:=holds_iff (E:=E) hxN (by rw [q2.vars];exact hv) hv8
   have hbb:b' = b:=by
    rw [Bool.eq_iff_iff,ib,ib'];exact ⟨fun h => ⟨h.1,q2.holds h.2⟩,fun h => ⟨h.1,q3 E h.2⟩⟩
   rw [hk2,cond_false,hxN.tag];simp only [Y0,bne_self_eq_false,cond_false];rw [eb',hbb];simp only [Y0,bne_self_eq_false,cond_false];have hfin:((x.Kind == 1) || ((x.Kind == 3) && (x.Rounds == (k:Int)))) = true:=by
    rcases q1 with h | ⟨h,h'⟩
    ·rw [h];rfl
    ·rw [h,h',Int.zero_add]
     simp
   rw [hfin,haw];cases hb:b with
   | false => rfl
   | true =>
    simp only [YD,cond_false];obtain ⟨hown,hH⟩:=ib.1 hb
    obtain ⟨v',C,p1,p2,p3,p4,p5⟩:=q7 (by omega)
    have hvv:v' = v:=by omega
    subst hvv
    rcases holds_eq (E:=E) (by omega) p4 (fun i hi => by have:=hown i hi;unfold In64;omega) with ⟨h1,_⟩ | ⟨_,h2⟩
    ·rw [p3,h1]
     rfl
    ·exact absurd (p5 E hH) h2
end Go.Dn
