/- Part 4 of what the row stands on. -/
import Derived.Test.YtochhophekfmbaaM3
set_option linter.unusedVariables false
set_option linter.unusedSimpArgs false
namespace Go.Dn
open Go
variable {n:Nat}
theorem stp_New_zero:Z0B 0 = some ([],0):=by
 unfold Z0B
 rw [Zr (by omega),Zr (by omega),Bool.or_self,cond_false]
 have hnew:new? 24 0 ([] : List Bound) = some []:=by
  unfold new?;rw [if_pos ⟨by omega,by simp⟩]
  rfl
 rw [hnew,Y0]
 have:loopO (Z0B.s0 0) (0,([] : List (List Bound))) = some []:=by
  rw [loopO_eq];unfold Z0B.s0;rw [Zr (by simp),cond_false]
 rw [this]
 rfl
theorem new_fine (n:Int):∃ x,Z0B n = some x∧(x.2 == 0) = ((decide (n ≥ 0)) && (decide (n≤24)))∧((x.2 == 0) = true→(x.1.length:Int) = n∧Z6 x.1 = some true):=by
 by_cases h:n ≥ 0∧n≤24
 ·rw [Zn h.1,Zn h.2]
  by_cases h0:n = 0
  ·subst h0;refine ⟨_,stp_New_zero,rfl,fun _ => ⟨rfl,?_⟩⟩
   rcases Z0d [] with ⟨e,_⟩ | ⟨_,e⟩
   ·exact e
   ·exact absurd ⟨by simp,by simp⟩ e
  ·obtain ⟨m,rfl⟩ : ∃ m:Nat,n = m:=⟨n.toNat,by omega⟩
   refine ⟨_,stp_New_eq (by omega) (by omega),rfl,fun _ => ⟨by rw [Zu],Z3o (by omega) fun i j hi hj => Z3I (newM_bd m i j hi hj) (by omega)⟩⟩
 ·have e:Z0B n = some ([],2):=by
   unfold Z0B;have:((decide (n < 0)) || (decide (n > 24))) = true:=by simp;omega
   rw [this,cond_true]
  refine ⟨_,e,?_,fun h => by cases h⟩
  have:((decide (n ≥ 0)) && (decide (n≤24))) = false:=by
   rw [Y0G]
   simp
   omega
  rw [this]
  rfl
theorem dec_ge (a b:Int):decide (a < b) = !decide (a ≥ b):=by
 by_cases h:a < b
 ·rw [Zn h,Zr (by omega)];rfl
 ·rw [Zr h,Zn (by omega)];rfl
theorem set_fine {d:List (List Bound)} (hd:∀ row ∈ d,(row.length:Int) < 4611686018427387904) (x:epactlaw24_Set) {r:Bool} (hr:Z6 d = some r) :
  ∃ y,Z1u d x.I x.J x.Most = some y∧((((((r && (decide (x.I ≥ 0))) && (decide (x.J ≥ 0))) && (decide (x.I < (d.length:Int)))) && (decide (x.J < (d.length:Int)))) && (Zk x.Most)) = (y.2 == 0))∧((y.2 == 0) = true→ZU d y.1 x = some true):=by
 have hsr:Z0K d = some r:=by
  rcases Z0d d with ⟨h1,h2⟩ | ⟨h1,h2⟩ <;> rcases Z3h d hd with ⟨h3,h4⟩ | ⟨h3,h4⟩
  ·rw [h3,← h1,hr]
  ·exact absurd h2 h4
  ·exact absurd h4 h2
  ·rw [h3,← h1,hr]
 have hg:((((((!r) || (decide (x.I < 0))) || (decide (x.J < 0))) || (decide (x.I ≥ (d.length:Int)))) || (decide (x.J ≥ (d.length:Int)))) || (!(Z01 x.Most))) = !(((((r && (decide (x.I ≥ 0))) && (decide (x.J ≥ 0))) && (decide (x.I < (d.length:Int)))) && (decide (x.J < (d.length:Int)))) && (Zk x.Most)):=by
  rw [may_eq,dec_ge x.I 0,dec_ge x.J 0,dec_ge x.I d.length,dec_ge x.J d.length];cases r <;> cases decide (x.I ≥ 0) <;> cases decide (x.J ≥ 0) <;> cases decide (x.I ≥ (d.length:Int)) <;> cases decide (x.J ≥ (d.length:Int)) <;> cases Z01 x.Most <;> rfl
 generalize hf:(((((r && (decide (x.I ≥ 0))) && (decide (x.J ≥ 0))) && (decide (x.I < (d.length:Int)))) && (decide (x.J < (d.length:Int)))) && (Zk x.Most)) = fine at hg ⊢
 cases fine with
 | false =>
  refine ⟨([],2),?_,rfl,fun h => by cases h⟩
  unfold Z1u;rw [hsr,Y0,hg]
  rfl
 | true =>
  simp only [Y7,decide_eq_true_eq] at hf;obtain ⟨⟨⟨⟨⟨h1,h2⟩,h3⟩,h4⟩,h5⟩,h6⟩:=hf
  subst h1;have hR:Z3P d:=by
   rcases Z0d d with ⟨_,h⟩ | ⟨h,_⟩
   ·exact h
   ·rw [hr] at h;cases h
  obtain ⟨M,hM,hB⟩:=Z5w hR
  have hn:d.length≤24:=hR.1
  generalize d.length = m at hM hB hn h4 h5;subst hM;obtain ⟨I,J,Most⟩:=x
  simp only at h2 h3 h4 h5 h6 ⊢;obtain ⟨i,rfl⟩ : ∃ i:Nat,I = i:=⟨I.toNat,by omega⟩
  obtain ⟨j,rfl⟩ : ∃ j:Nat,J = j:=⟨J.toNat,by omega⟩
  rw [may_eq] at h6;obtain ⟨v,rfl,hv⟩:=may_of h6
  exact ⟨_,stp_Set_mat hn hB (by omega) (by omega) hv,rfl,fun _ => set24_eq hn (by omega) (by omega)⟩
theorem rowM_take {M:MF} {m i:Nat} (h:m≤n):(rowM n M i).take m = rowM m M i:=by
 unfold rowM
 rw [← Y0B,List.take_range,Y0f h]
theorem few_eq {d:List (List Bound)} {M:MF} {m:Nat} (hn:n≤24) (hm:m≤n) (hd:iMin (d.length:Int) 6 = (m:Int)):loopO (ZH.s1 d ((List.range m).map fun a => rowM n M a)) (0,[]) = some (Mat m M):=by
 refine Z0Q (I:=fun s r => r = Mat m M∧∃ k:Nat,s = ((k:Int),(List.range k).map fun a => rowM m M a)∧k≤m) (fun s => m - s.1.toNat) ?_ ⟨rfl,0,rfl,Ya _⟩
 rintro _ r ⟨rfl,k,rfl,hk⟩
 unfold ZH.s1
 simp only [YH,Yt]
 by_cases hlt:k < m
 ·rw [Zn (by omega),cond_true,at?_nat (by simpa using hlt)]
  have hcut:cut? (rowM n M k) 0 (m:Int) = some (rowM m M k):=by
   unfold cut?;rw [if_pos ⟨by omega,by omega,by rw [Z12];omega⟩,YK]
   show some (((rowM n M k).take m).drop 0) = _
   rw [Y0l,rowM_take hm]
  simp only [List.getElem_map,Y0g,Y0,hd,hcut];rw [app?_ok (by simp [Z3i];omega)]
  refine .inl ⟨_,rfl,⟨trivial,k + 1,?_,hlt⟩,?_⟩
  ·rw [ZY (by omega),List.range_succ,Yo];push_cast;rfl
  ·simp only [];rw [ZY (by omega)];omega
 ·have:k = m:=by omega
  subst this;rw [Zr (by omega),cond_false]
  exact .inr rfl
theorem few_same {M:MF} {m:Nat} (hm:m≤6) (hB:BdM m M 1125899906842624):∃ r b,Z0T (Mat m M) = some (r,b,0)∧ZN (Mat m M) = some (r,b)∧ZG r r = some true:=by
 have hnil:ZG [] [] = some true:=by
  have:=Z6j (n:=0) (C:=fun _ _ => none) (by omega)
  exact this
 by_cases h0:m = 0
 ·subst h0;refine ⟨[],true,rfl,?_,hnil⟩
  rcases Z4B (n:=0) (M:=M) (W:=fun _ _ => none) (by omega) (fun i j hi => absurd hi (Y0J _)) with ⟨_,e⟩ | ⟨⟨i,hi,_⟩,_⟩
  ·exact e
  ·exact absurd hi (Y0J _)
 ·obtain ⟨r,b,h1,h2,h3⟩:=closes_eq (by omega) (by omega) (by omega) hm hB
  refine ⟨r,b,?_,h2,?_⟩
  ·unfold Z0T;have:(Mat m M).isEmpty = false:=by
    have:=Zu (n:=m) (M:=M)
    cases h:Mat m M with
    | nil => rw [h] at this;simp at this;omega
    | cons a l => rfl
   rw [this,cond_false,h1]
  ·rcases h3 with rfl | ⟨C,rfl⟩
   ·exact hnil
   ·exact Z6j (by omega)
theorem rows_loop {d:List (List Bound)} (h30:d.length≤30):(loopO (ZH.s0 d) 0 = some (.go ())∧∀ row ∈ d,row.length≤30)∨loopO (ZH.s0 d) 0 = some (.ret ZB):=by
 have key:=Z2K (l:=d) (step:=ZH.s0 d) (good:=fun _ row => row.length≤30) (yes:=.go ()) (no:=.ret ZB) ?_ ?_
 ·rcases key with ⟨h1,h2⟩ | ⟨h1,h2⟩
  ·refine .inl ⟨h1,fun row hr => ?_⟩
   obtain ⟨k,hk⟩:=Yr hr
   exact h2 k row hk
  ·exact .inr h1
 ·intro k row hk _;obtain ⟨hkl,rfl⟩:=List.getElem?_eq_some_iff.1 hk
  unfold ZH.s0
  by_cases hkm:(k:Int) < (d.length:Int)
  ·rw [Zn hkm,cond_true,at?_nat hkl,Y0]
   by_cases hl:d[k].length≤30
   ·rw [Zr (by omega),cond_false,ZY (by omega)]
    exact .inl ⟨rfl,hl⟩
   ·rw [Zn (by omega),cond_true]
    exact .inr ⟨rfl,hl⟩
  ·omega
 ·unfold ZH.s0;rw [Zr (by omega),cond_false]
theorem stpTells_true (n:Int) (d:List (List Bound)) (ticks:List Int) (x:epactlaw24_Set) (hn:okI .i64 n) (hd:okL 24 (okL 16 Bound.ok) d) (ht:okL 8 (okI .i64) ticks) (hx:epactlaw24_Set.ok x):ZH n d ticks x = some true:=by
 have tok:∀ x ∈ ticks,In64 x:=fun x hx => ht.2 x hx
 have haw:ZB = true:=rfl
 unfold ZH
 by_cases h30:d.length≤30
 ·rw [Zr (by omega),cond_false]
  rcases rows_loop h30 with ⟨hl,hrows⟩ | hl
  case inr => rw [hl,haw];rfl
  rw [hl];simp only [Y0,Jx.elim];have hd4:∀ row ∈ d,(row.length:Int) < 4611686018427387904:=fun row hr => by have:=hrows row hr;omega
  obtain ⟨x2,e2,c2,g2⟩:=new_fine n
  have hN:(bif ((x2.2 == 0) != ((decide (n ≥ 0)) && (decide (n≤24)))) then some true else ((bif (x2.2 == 0) then ((bif ((x2.1.length:Int) != n) then some true else (Z6 x2.1).bind fun x3 => some (!x3)).bind fun (y4:Bool) => some y4) else some false).bind fun (y3:Bool) => some y3)) = some false:=by
   rw [← c2];cases h:(x2.2 == 0) with
   | false => rfl
   | true =>
    obtain ⟨l1,l2⟩:=g2 h
    rw [Z4X l1,l2]
    rfl
  rw [e2,Y0,hN,Y0,cond_false];obtain ⟨r,hr,hsr,hRr⟩ : ∃ r,Z6 d = some r∧Z0K d = some r∧(r = true ↔ Z3P d):=by
   rcases Z0d d with ⟨h1,h2⟩ | ⟨h1,h2⟩ <;> rcases Z3h d hd4 with ⟨h3,h4⟩ | ⟨h3,h4⟩
   ·exact ⟨true,h1,h3,by simp [h2]⟩
   ·exact absurd h2 h4
   ·exact absurd h4 h2
   ·exact ⟨false,h1,h3,by simp [h2]⟩
  obtain ⟨b,hb1,hb2⟩:=holds_alike hd4 tok
  obtain ⟨y,e3,c3,g3⟩:=set_fine hd4 x hr
  rw [hr,hsr,hb1,hb2,e3];simp only [Y0,bne_self_eq_false,cond_false];rw [c3];have hS:(bif ((y.2 == 0) != (y.2 == 0)) then some true else ((bif (y.2 == 0) then (ZU d y.1 x).bind fun x10 => some (!x10) else some false).bind fun (y8:Bool) => some y8)) = some false:=by
   rw [bne_self_eq_false,cond_false];cases h:(y.2 == 0) with
   | false => rfl
   | true => rw [g3 h];rfl
  rw [bne_self_eq_false,cond_false] at hS;rw [bne_self_eq_false,cond_false,hS,Y0,cond_false,haw];cases r with
  | false =>
   have hc:Z0T d = some ([],false,2):=by
    unfold Z0T;have hne:d.isEmpty = false:=by
     cases d with
     | nil => exact absurd ((hRr.2 ⟨by simp,by simp⟩)) (by simp)
     | cons a l => rfl
    rw [hne,cond_false];unfold Z9;rw [hsr]
    rfl
   rw [hc]
   rfl
  | true =>
   have hR:Z3P d:=hRr.1 rfl
   obtain ⟨M,hM,hB⟩:=Z5w hR
   have hn24:d.length≤24:=hR.1
   obtain ⟨m,hm⟩ : ∃ m:Nat,m = min d.length 6:=⟨_,rfl⟩
   have hmi:iMin (d.length:Int) 6 = (m:Int):=by
    unfold iMin
    split <;> omega
   have hcut:cut? d 0 (m:Int) = some ((List.range m).map fun a => rowM d.length M a):=by
    unfold cut?;rw [if_pos ⟨by omega,by omega,by omega⟩,YK]
    show some ((d.take m).drop 0) = _
    rw [Y0l]
    conv => lhs;rw [hM]
    unfold Mat
    rw [← Y0B,List.take_range,Y0f (by omega)]
   simp only [Y0L,cond_false,hmi,hcut,Y0];rw [few_eq hn24 (by omega) hmi,Y0]
   obtain ⟨z,bb,f1,f2,f3⟩:=few_same (m:=m) (M:=M) (by omega) fun i j hi hj => hB i j (by omega) (by omega)
   rw [f1,f2];simp only [Y0,beq_self_eq_true,Yl,cond_true,f3]
 ·rw [Zn (by omega),cond_true,haw]
end Go.Dn
