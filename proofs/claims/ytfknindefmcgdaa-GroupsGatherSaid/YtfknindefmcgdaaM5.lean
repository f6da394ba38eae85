/- Part 5 of what the row stands on. -/
import Derived.Test.YtfknindefmcgdaaM4
set_option linter.unusedVariables false
set_option linter.unusedSimpArgs false
namespace Go.Dn
open Go
theorem ext_of {α:Type} {a b:List α} (hl:a.length = b.length) (h:∀ (k:Nat) x y,a[k]? = some x→b[k]? = some y→x = y):a = b:=by
 apply List.ext_getElem hl
 intro k h1 h2
 exact h k _ _ (Y2 h1) (Y2 h2)
theorem sameSets_eq {x y:List (List Span)} (hc:x.length * 24≤reachBytes) (hs:∀ l ∈ x,Len l):∃ r,Z9 x y (fun z0 z1 => Z0B z0 z1) = some r∧(r = true ↔ x = y):=by
 have hl:(x.length:Int) < 4611686018427387904:=Z1w (b:=23) hc
 unfold Z9
 by_cases hlen:x.length = y.length
 ·rw [Z5g (by omega),cond_false]
  rcases Z5v (a:=x) (b:=y) (step:=Z9.s0 x y (fun z0 z1 => Z0B z0 z1)) (eq:=fun z0 z1 => Z0B z0 z1) (fun p q => p = q) (by omega) hlen (fun k p q hp hq => Z3y (hs p (Y6 hp))) (fun s => rfl) with ⟨h1,h2⟩ | ⟨h1,h2⟩
  ·rw [h1];exact ⟨true,rfl,⟨fun _ => ext_of hlen h2,fun _ => rfl⟩⟩
  ·rw [h1];exact ⟨false,rfl,⟨(fun h => nomatch h),fun e => absurd (fun k p q hp hq => by rw [e,hq] at hp;exact (Option.some.inj hp).symm) h2⟩⟩
 ·rw [bne_t (by omega),cond_true]
  exact ⟨false,rfl,⟨(fun h => nomatch h),fun e => absurd (congrArg List.length e) hlen⟩⟩
theorem ZAP {x y:Granule}:x = y ↔ x.Index = y.Index∧x.Ticks = y.Ticks:=by
 obtain ⟨a,b⟩:=x
 obtain ⟨c,d⟩:=y
 simp
theorem Z9v {x y:Granule} (h:Len x.Ticks):∃ r,Z19 x y = some r∧(r = true ↔ x = y):=by
 unfold Z19
 rw [ZAP]
 by_cases hi:x.Index = y.Index
 ·rw [Z5M hi,cond_true];obtain ⟨r,h1,h2⟩:=Z3y (b:=y.Ticks) h
  rw [h1];exact ⟨r,rfl,by rw [h2];exact ⟨fun e => ⟨hi,e⟩,fun e => e.2⟩⟩
 ·rw [Z3Y hi,cond_false];exact ⟨false,rfl,⟨(fun h => nomatch h),fun e => absurd e.1 hi⟩⟩
theorem sameOdd_eq {x y:List Granule} (hc:x.length * 32≤reachBytes) (hs:∀ g ∈ x,Len g.Ticks):∃ r,Z2 x y (fun z0 z1 => Z19 z0 z1) = some r∧(r = true ↔ x = y):=by
 have hl:(x.length:Int) < 4611686018427387904:=Z1w (b:=31) hc
 unfold Z2
 by_cases hlen:x.length = y.length
 ·rw [Z5g (by omega),cond_false]
  rcases Z5v (a:=x) (b:=y) (step:=Z2.s0 x y (fun z0 z1 => Z19 z0 z1)) (eq:=fun z0 z1 => Z19 z0 z1) (fun p q => p = q) (by omega) hlen (fun k p q hp hq => Z9v (hs p (Y6 hp))) (fun s => rfl) with ⟨h1,h2⟩ | ⟨h1,h2⟩
  ·rw [h1];exact ⟨true,rfl,⟨fun _ => ext_of hlen h2,fun _ => rfl⟩⟩
  ·rw [h1];exact ⟨false,rfl,⟨(fun h => nomatch h),fun e => absurd (fun k p q hp hq => by rw [e,hq] at hp;exact (Option.some.inj hp).symm) h2⟩⟩
 ·rw [bne_t (by omega),cond_true]
  exact ⟨false,rfl,⟨(fun h => nomatch h),fun e => absurd (congrArg List.length e) hlen⟩⟩
theorem Z9D {a b:Form}:a = b ↔ a.Period = b.Period∧a.Count = b.Count∧a.Core = b.Core∧a.Odd = b.Odd:=by
 obtain ⟨a1,a2,a3,a4⟩:=a
 obtain ⟨b1,b2,b3,b4⟩:=b
 simp
theorem ZBI {a b:Form} (hl:Lim a):∃ r,Z3C a b = some r∧(r = true ↔ a = b):=by
 unfold Z3C
 rw [Z9D]
 by_cases hp:a.Period = b.Period∧a.Count = b.Count
 ·rw [Z5M hp.1,Z5M hp.2];simp only [Yh,cond_true];obtain ⟨r,h1,h2⟩:=sameSets_eq (y:=b.Core) hl.core (fun l h => (hl.sets l h).1)
  rw [h1];simp only [Y0];cases r with
  | true =>
   obtain ⟨r',h3,h4⟩:=sameOdd_eq (y:=b.Odd) hl.odd (fun g h => (hl.ticks g h).2.1)
   rw [cond_true,h3];exact ⟨r',rfl,by rw [h4];exact ⟨fun e => ⟨hp.1,hp.2,h2.1 rfl,e⟩,fun e => e.2.2.2⟩⟩
  | false =>
   exact ⟨false,rfl,⟨(fun h => nomatch h),fun e => by have:=h2.2 e.2.2.1;cases this⟩⟩
 ·have:((a.Period == b.Period) && (a.Count == b.Count)) = false:=by
   rw [Y0U]
   by_cases h:a.Period = b.Period
   ·exact .inr (Z3Y fun h' => hp ⟨h,h'⟩)
   ·exact .inl (Z3Y h)
  rw [this];exact ⟨false,rfl,⟨(fun h => nomatch h),fun e => absurd ⟨e.1,e.2.1⟩ hp⟩⟩
theorem alike_eq {a b:List Span} (ha:Len a):∃ r,ZR a b = some r∧(r = true ↔ a = b):=by
 have hl:(a.length:Int) < 9223372036854775807:=by have:=Z11;unfold Len at ha;omega
 unfold ZR
 by_cases hlen:a.length = b.length
 ·rw [Z5g (by omega),cond_false]
  rcases Z5v (a:=a) (b:=b) (step:=ZR.s0 a b) (eq:=fun x y => some (decide (y = x))) (fun p q => p = q) hl hlen (fun k p q hp hq => ⟨_,rfl,by rw [decide_eq_true_iff];exact ⟨Eq.symm,Eq.symm⟩⟩) (fun s => by
   unfold ZR.s0;simp only [span_beq]
   rfl) with ⟨h1,h2⟩ | ⟨h1,h2⟩
  ·rw [h1];exact ⟨true,rfl,⟨fun _ => ext_of hlen h2,fun _ => rfl⟩⟩
  ·rw [h1];exact ⟨false,rfl,⟨(fun h => nomatch h),fun e => absurd (fun k p q hp hq => by rw [e,hq] at hp;exact (Option.some.inj hp).symm) h2⟩⟩
 ·rw [bne_t (by omega),cond_true]
  exact ⟨false,rfl,⟨(fun h => nomatch h),fun e => absurd (congrArg List.length e) hlen⟩⟩
theorem alikeForms_eq {a b:Form} (hl:Lim a):∃ r,ZD a b = some r∧(r = true ↔ a = b):=by
 have hc:(a.Core.length:Int) < 4611686018427387904:=Z1w (b:=23) hl.core
 have ho:(a.Odd.length:Int) < 4611686018427387904:=Z1w (b:=31) hl.odd
 unfold ZD
 rw [Z9D]
 by_cases hp:a.Period = b.Period∧a.Count = b.Count∧a.Core.length = b.Core.length∧a.Odd.length = b.Odd.length
 ·obtain ⟨p1,p2,p3,p4⟩:=hp
  rw [Z5g p1,Z5g p2,Z5g (show (a.Core.length:Int) = b.Core.length by omega),Z5g (show (a.Odd.length:Int) = b.Odd.length by omega)]
  simp only [Y0i,cond_false]
  rcases Z5v (a:=a.Core) (b:=b.Core) (step:=ZD.s0 a b) (eq:=ZR) (fun p q => p = q) (by omega) p3 (fun k p q hp hq => alike_eq (hl.sets p (Y6 hp)).1) (fun s => rfl) with ⟨h1,h2⟩ | ⟨h1,h2⟩
  ·rw [h1];simp only [Y0,Jx.elim];have ec:=ext_of p3 h2
   rcases Z5v (a:=a.Odd) (b:=b.Odd) (step:=ZD.s1 a b) (eq:=fun x y => bif x.Index != y.Index then some false else ZR x.Ticks y.Ticks) (fun p q => p = q) (by omega) p4 (fun k p q hp hq => by
    rw [ZAP]
    by_cases hi:p.Index = q.Index
    ·rw [Z5g hi,cond_false];obtain ⟨r,q1,q2⟩:=alike_eq (b:=q.Ticks) (hl.ticks p (Y6 hp)).2.1
     exact ⟨r,q1,by rw [q2];exact ⟨fun e => ⟨hi,e⟩,fun e => e.2⟩⟩
    ·rw [bne_t hi,cond_true];exact ⟨false,rfl,⟨(fun h => nomatch h),fun e => absurd e.1 hi⟩⟩) (fun s => by
    unfold ZD.s1
    rcases e1:at? a.Odd s with _ | x
    ·rfl
    rcases e2:at? b.Odd s with _ | y
    ·rfl
    simp only [Y0];cases x.Index != y.Index with
    | true => rfl
    | false =>
     simp only [cond_false]
     rcases ZR x.Ticks y.Ticks with _ | r
     ·rfl
     ·rfl) with ⟨h3,h4⟩ | ⟨h3,h4⟩
   ·rw [h3];exact ⟨true,rfl,⟨fun _ => ⟨p1,p2,ec,ext_of p4 h4⟩,fun _ => rfl⟩⟩
   ·rw [h3];exact ⟨false,rfl,⟨(fun h => nomatch h),fun e => absurd (fun k p q hp hq => by rw [e.2.2.2,hq] at hp;exact (Option.some.inj hp).symm) h4⟩⟩
  ·rw [h1];exact ⟨false,rfl,⟨(fun h => nomatch h),fun e => absurd (fun k p q hp hq => by rw [e.2.2.1,hq] at hp;exact (Option.some.inj hp).symm) h2⟩⟩
 ·refine ⟨false,?_,⟨(fun h => nomatch h),fun e => absurd ⟨e.1,e.2.1,by rw [e.2.2.1],by rw [e.2.2.2]⟩ hp⟩⟩
  have:((((a.Period != b.Period) || (a.Count != b.Count)) || ((a.Core.length:Int) != (b.Core.length:Int))) || ((a.Odd.length:Int) != (b.Odd.length:Int))) = true:=by
   simp only [Yr,bne_iff_ne,ne_eq];apply Classical.byContradiction;intro hn;apply hp;refine ⟨?_,?_,?_,?_⟩ <;> apply Classical.byContradiction <;> intro h <;> apply hn
   ·exact .inl (.inl (.inl h))
   ·exact .inl (.inl (.inr h))
   ·exact .inl (.inr (by omega))
   ·exact .inr (by omega)
  rw [this];rfl
end Go.Dn

namespace Go.Dn
open Go
theorem Z8k {l:List Granule}:Inc l ↔ l.Pairwise (fun a b => a.Index < b.Index):=by
 rw [Yi]
 constructor
 ·intro h i j hi hj hij;exact h i j _ _ hij (Y2 hi) (Y2 hj)
 ·intro h j k a b hjk ha hb;obtain ⟨h1,rfl⟩:=List.getElem?_eq_some_iff.1 ha
  obtain ⟨h2,rfl⟩:=List.getElem?_eq_some_iff.1 hb
  exact h j k h1 h2 hjk
theorem Inc.filter {l:List Granule} (h:Inc l) (p:Granule→Bool):Inc (l.filter p):=Z8k.2 ((Z8k.1 h).filter p)
theorem Z63 {f c:Form} (hs:Shape f) (h:Z1d f c):csz (Z1z f c) = csz f:=by
 rw [← h.csz hs];rfl
theorem oddly_iff {f:Form} {g:Granule}:oddly f g = true ↔ ¬ csz f g.Index = g.Ticks:=by unfold oddly;rw [decide_eq_true_iff]
theorem Z33 {f c:Form} {g:Granule}:g ∈ (Z1z f c).Odd ↔ g ∈ f.Odd∧oddly f g = true:=List.mem_filter
theorem Z8h {f c:Form} (hs:Shape f) (h:Z1d f c):ZH (Z1z f c) = ZH f:=by
 funext i
 by_cases ho:Z2p f i
 ·obtain ⟨g,hg,rfl⟩:=ho
  rw [Z0p hs.inc hg]
  by_cases hod:oddly f g = true
  ·exact Z0p (hs.inc.filter _) (Z33.2 ⟨hg,hod⟩)
  ·have he:csz f g.Index = g.Ticks:=Classical.byContradiction fun hn => hod (oddly_iff.2 hn)
   rw [Z3l (f:=Z1z f c),Z63 hs h,he]
   rintro ⟨g',hg',e⟩;obtain ⟨m1,m2⟩:=Z33.1 hg'
   have:=hs.inc.uniq m1 hg e
   subst this;exact hod m2
 ·rw [Z3l ho,Z3l (f:=Z1z f c),Z63 hs h]
  rintro ⟨g',hg',e⟩;exact ho ⟨g',(Z33.1 hg').1,e⟩
theorem Z67 {f c:Form} (hs:Shape f) (h:Z1d f c):Shape (Z1z f c):=by
 have:=h.shape hs
 exact ⟨this.count,this.zero,this.per,this.core,fun g hg => hs.odd g (Z33.1 hg).1,hs.inc.filter _⟩
theorem canonF_lim {f c:Form} (hl:Lim f) (hs:Shape f) (h:Z1d f c):Lim (Z1z f c):=by
 have:=h.lim hl hs
 refine ⟨this.core,this.sets,?_,fun g hg => hl.ticks g (Z33.1 hg).1,this.count,this.period⟩
 have h1:(Z1z f c).Odd.length≤f.Odd.length:=Y0M _ _
 have:=hl.odd
 have:=YG 32 h1
 omega
theorem turns_of {f:Form} (hs:Shape f) (h:0 < f.Count→∀ i k,i < k→cs f i ≠ []→cs f k ≠ []→lstT (cs f i) < fstT (cs f k)):Turns f:=by
 have hcnt:=hs.count
 have at_:∀ (j:Nat) (a:List Span),f.Core[j]? = some a→cs f j = a:=fun j a ha => by
  have:=(List.getElem?_eq_some_iff.1 ha).1
  rw [Z4p (by omega) (by omega),YM,Int.toNat_natCast,ha];rfl
 have hpw:f.Core.Pairwise (fun a b => a ≠ []→b ≠ []→lstT a < fstT b):=by
  rw [Yi];intro i j hi hj hij na nb;have h1:=at_ i _ (Y2 hi)
  have h2:=at_ j _ (Y2 hj)
  have:=h (by omega) i j (by omega) (by rw [h1];exact na) (by rw [h2];exact nb)
  rw [h1,h2] at this;exact this
 constructor
 ·intro k a b ha hb;have hp:=hpw.filter (fun l => decide (l.length > 0))
  rw [Yi] at hp;obtain ⟨h1,rfl⟩:=List.getElem?_eq_some_iff.1 ha
  obtain ⟨h2,rfl⟩:=List.getElem?_eq_some_iff.1 hb
  exact hp k (k + 1) h1 h2 (by omega) (Z2v.1 (YZ h1)).2 (Z2v.1 (YZ h2)).2
 ·intro a b ha hb;obtain ⟨ma,na⟩:=Z2v.1 (List.mem_of_getLast? ha)
  obtain ⟨mb,nb⟩:=Z2v.1 (List.mem_of_head? hb)
  obtain ⟨j,hj⟩:=YC ma
  obtain ⟨k,hk⟩:=YC mb
  have hjl:=(List.getElem?_eq_some_iff.1 hj).1
  have h1:=at_ j _ hj
  have h2:=at_ k _ hk
  have h3:cs f ((k:Int) + f.Count) = b.map (ZW f.Period):=by rw [Z7M (by omega),h2]
  have:=h (by omega) j ((k:Int) + f.Count) (by omega) (by rw [h1];exact na) (by rw [h3];simpa using nb)
  rw [h1,h3,(Z5s _ nb).2] at this;exact this
theorem csz_order {f:Form} (hs:Shape f) (ht:Turns f) {i k:Int} (hik:i < k) (ni:csz f i ≠ []) (nk:csz f k ≠ []):lstT (csz f i) < fstT (csz f k):=by
 have h0:f.Count ≠ 0:=fun h => ni (by unfold csz;rw [if_pos h])
 unfold csz at ni nk ⊢
 rw [if_neg h0] at ni nk ⊢
 rw [if_neg h0]
 have n1:Z0Z f i ≠ []:=fun h => ni (by unfold cs;rw [h];rfl)
 have n2:Z0Z f k ≠ []:=fun h => nk (by unfold cs;rw [h];rfl)
 have:=ZAt hs ht h0 hik n1 n2
 unfold cs
 rw [(Z5s _ n1).1,(Z5s _ n2).2]
 exact this
theorem beside_congr {f g:Form} (h:ZH g = ZH f) {i:Int} (hb:Beside f i):Beside g i:=by
 intro lo hi hlo hhi
 have hu:Under f i lo:=by unfold Under at hlo ⊢;rw [h] at hlo;exact hlo
 have ha:Above f i hi:=by unfold Above at hhi ⊢;rw [h] at hhi;exact hhi
 have:=hb lo hi hu ha
 unfold BesideR fits at this ⊢
 rw [h]
 exact this
theorem canonF_right {f c:Form} (hr:RightF f) (h:Z1d f c):RightF (Z1z f c):=by
 have hs:=hr.shape
 refine ⟨Z67 hs h,turns_of (Z67 hs h) (fun h0 i k hik ni nk => ?_),fun g hg => beside_congr (Z8h hs h) (hr.beside g (Z33.1 hg).1)⟩
 rw [← Z5H h0,Z63 hs h] at ni nk ⊢
 exact csz_order hs hr.turns hik ni nk
theorem canonF_fix {f c:Form} (hs:Shape f) (h:Z1d f c):Z1d (Z1z f c) c∧Z1z (Z1z f c) c = Z1z f c:=by
 have hcz:=Z63 hs h
 have hodd:(Z1z f c).Odd.filter (oddly (Z1z f c)) = (Z1z f c).Odd:=by
  rw [List.filter_eq_self];intro g hg;have:=(Z33.1 hg).2
  rw [oddly_iff] at this ⊢;rw [hcz];exact this
 have hco:=h.odd
 refine ⟨?_,by unfold Z1z at hodd ⊢;rw [Z9D];exact ⟨rfl,rfl,rfl,hodd⟩⟩
 rcases h with ⟨hb,rfl⟩ | ⟨hb,h0,d,hg,hmin,rfl⟩
 ·exact .inl ⟨(fun l hl => by cases hl),rfl⟩
 ·right
  have hd:=hg.pos
  have hdn:d≤f.Count:=Y0l h0 hg.dvd
  have hcnt:=hs.count
  generalize hc':Z1z f (Form.mk (f.Period / (f.Count / d)) d (f.Core.take d.toNat) []) = c' at hcz;have e1:c'.Count = d:=by rw [← hc'];rfl
  have e2:c'.Period = f.Period / (f.Count / d):=by rw [← hc'];rfl
  have e3:c'.Core = f.Core.take d.toNat:=by rw [← hc'];rfl
  have hcs:cs c' = cs f:=by rw [← Z5H (show 0 < c'.Count by omega),← Z5H h0,hcz]
  have hlen:(f.Core.take d.toNat).length = d.toNat:=by rw [YR];omega
  have good_up:∀ d',Good c' d'→Good f d':=fun d' g => by
   have q1:=g.pos
   have q2:=g.dvd
   have q3:=g.rest
   have q4:=g.turn
   rw [e1] at q2 q3 q4;rw [e2] at q3 q4;have hdd:d' ∣ f.Count:=Int.dvd_trans q2 hg.dvd
   obtain ⟨a,ha⟩:=q2
   obtain ⟨b,hb'⟩:=hg.dvd
   have hbp:0 < b:=by
    rcases Int.lt_or_le 0 b with h | h
    ·exact h
    ·have:d * b≤0:=Y0L (by omega) h
     omega
   have hap:0 < a:=by
    rcases Int.lt_or_le 0 a with h | h
    ·exact h
    ·have:d' * a≤0:=Y0L (by omega) h
     omega
   have f1:f.Count / d = b:=by rw [hb',Int.mul_ediv_cancel_left _ (by omega)]
   have f2:d / d' = a:=by rw [ha,Int.mul_ediv_cancel_left _ (by omega)]
   have f3:f.Count / d' = a * b:=by rw [hb',ha,Yy,Int.mul_ediv_cancel_left _ (by omega)]
   have hrest:=hg.rest
   rw [f1] at hrest q3 q4;rw [f2] at q3 q4;have f4:f.Period = a * (f.Period / b / a) * b:=by
    have z1:=Int.ediv_mul_cancel (Int.dvd_of_emod_eq_zero hrest)
    have z2:=Int.ediv_mul_cancel (Int.dvd_of_emod_eq_zero q3)
    rw [Y0A a,z2,z1]
   have f5:f.Period = (f.Period / b / a) * (a * b):=by
    conv => lhs;rw [f4]
    rw [Y0A a,Yy]
   have hab:a * b ≠ 0:=by
    have:=Int.mul_pos hap hbp
    omega
   have f6:f.Period / (a * b) = f.Period / b / a:=by
    conv => lhs;rw [f5]
    exact Int.mul_ediv_cancel _ hab
   refine ⟨q1,hdd,?_,?_⟩
   ·rw [f3];exact Int.emod_eq_zero_of_dvd ⟨f.Period / b / a,by rw [Y0A];exact f5⟩
   ·rw [f3,f6];intro i;have:=q4 i;rw [hcs] at this;exact this
  have hself:Good c' c'.Count:=good_self (by omega)
  refine ⟨fun hbare => hb ?_,by omega,d,by rw [← e1];exact hself,fun d' g => hmin d' (good_up d' g),?_⟩
  ·intro l hl;obtain ⟨k,hk⟩:=YC hl
   have hkl:=(List.getElem?_eq_some_iff.1 hk).1
   have hbz:∀ i,cs f i = []:=fun i => by
    rw [← hcs];have hcore:∀ i,Z0Z c' i ∈ c'.Core:=fun i => by
     unfold Z0Z;have h1:=Yf i (show c'.Count ≠ 0 by omega)
     have h2:=Yq i (show 0 < c'.Count by omega)
     have:(i % c'.Count).toNat < c'.Core.length:=by rw [e3,hlen];omega
     rw [YM,Y2 this];exact YZ _
    unfold cs;rw [hbare _ (hcore i)];rfl
   have:=hbz k
   rw [Z4p (by omega) (by omega),YM,Int.toNat_natCast,hk] at this
   exact this
  ·rw [Z9D];have hdd:d / d = 1:=Int.ediv_self (by omega)
   refine ⟨?_,rfl,?_,rfl⟩
   ·show _ = c'.Period / (c'.Count / d)
    rw [e1,e2,hdd,Int.ediv_one]
   ·show _ = c'.Core.take d.toNat
    rw [e3,List.take_take,Nat.min_self]
end Go.Dn

namespace Go.Dn
open Go
theorem Z7r {α:Type} (g:α→Nat) (p:α→Bool):∀ l:List α,((l.filter p).map g).sum≤(l.map g).sum
 | [] => YB _
 | x :: l => by
  have:=Z7r g p l
  rw [List.filter_cons]
  split <;> simp only [Y00,List.sum_cons] <;> omega
theorem ZAB {α:Type} (g:α→Nat):∀ (n:Nat) (l:List α),((l.take n).map g).sum≤(l.map g).sum
 | 0,l => by simp
 | n + 1,[] => by simp
 | n + 1,x :: l => by
  have:=ZAB g n l
  simp only [List.take_succ_cons,Y00,List.sum_cons];omega
theorem coreOf_le {f c:Form} (hs:Shape f) (h:Z1d f c):c.Count≤f.Count∧c.Period≤f.Period∧c.Core.length≤f.Core.length∧(c.Core.map List.length).sum≤(f.Core.map List.length).sum:=by
 have hp:=hs.per
 have hcnt:=hs.count
 rcases h with ⟨hb,rfl⟩ | ⟨hb,h0,d,hg,hmin,rfl⟩
 ·exact ⟨by simp only;omega,by simp only;omega,Yb _,Yb _⟩
 ·exact ⟨Y0l h0 hg.dvd,Y0h _ hp.1,by simp only [YR];omega,ZAB _ _ _⟩
theorem canon_facts {f:Form} (hl:Lim f) (hr:RightF f):∃ g,Zc f = some g∧Lim g∧RightF g∧ZH g = ZH f∧Zc g = some g∧g.Count≤f.Count∧g.Period≤f.Period∧g.Core.length≤f.Core.length∧g.Odd.length≤f.Odd.length∧Z59 g≤Z59 f:=by
 have hs:=hr.shape
 obtain ⟨c,hc,hf⟩:=Z5Q hl hs
 have hl':=canonF_lim hl hs hc
 have hs':=Z67 hs hc
 obtain ⟨hfx,hfe⟩:=canonF_fix hs hc
 have hcl:=coreOf_le hs hc
 refine ⟨_,hf,hl',canonF_right hr hc,Z8h hs hc,?_,hcl.1,hcl.2.1,hcl.2.2.1,Y0M _ _,?_⟩
 ·obtain ⟨c2,hc2,hf2⟩:=Z5Q hl' hs'
  have:c2 = c:=by
   rcases hfx with ⟨b1,e1⟩ | ⟨b1,z1,d1,g1,m1,e1⟩ <;> rcases hc2 with ⟨b2,e2⟩ | ⟨b2,z2,d2,g2,m2,e2⟩
   ·rw [e1,e2]
   ·exact absurd b1 b2
   ·exact absurd b2 b1
   ·have:d1 = d2:=by have:=m1 d2 g2;have:=m2 d1 g1;omega
    subst this;rw [e2];exact e1.symm
  rw [hf2,this,hfe]
 ·have h1:=hcl.2.2.2
  have h2:=Z7r (fun g:Granule => g.Ticks.length) (oddly f) f.Odd
  unfold Z59
  show (c.Core.map List.length).sum + ((f.Odd.filter (oddly f)).map (fun g => g.Ticks.length)).sum≤_
  omega
end Go.Dn

namespace Go.Dn
open Go
theorem shift_ne {l:List Span} (hn:l ≠ []) {a b:Int} (h:l.map (ZW a) = l.map (ZW b)):a = b:=by
 cases l with
 | nil => exact absurd rfl hn
 | cons s l =>
  simp only [Y00,List.cons.injEq,ZW,Span.mk.injEq] at h;omega
theorem Turn.uniq {h:Int→List Span} {d q q':Int} (t:Turn h d q) (t':Turn h d q') {i:Int} (hn:h i ≠ []):q = q':=shift_ne hn ((t i).symm.trans (t' i))
def NearF (f:Form) (m:Int):Prop:=∀ g ∈ f.Odd,-m≤g.Index∧g.Index≤m
end Go.Dn

namespace Go.Dn
open Go
end Go.Dn

namespace Go.Dn
open Go
end Go.Dn

namespace Go.Dn
open Go
def Mid (x:Int):Prop:=-1000000000000000000≤x∧x≤1000000000000000000
end Go.Dn

namespace Go.Dn
open Go
end Go.Dn

namespace Go.Dn
open Go
theorem u64_id {a:Int} (h:0≤a∧a < 18446744073709551616):IntKind.u64.wrap a = a:=by rw [Z5x];omega
def Dig (x:Int):Prop:=0≤x∧x < 65536
structure Digs (d:Arr9_u32):Prop where
 h0:Dig d.d0
 h1:Dig d.d1
 h2:Dig d.d2
 h3:Dig d.d3
 h4:Dig d.d4
 h5:Dig d.d5
 h6:Dig d.d6
 h7:Dig d.d7
 h8:Dig d.d8
def lsz (d:Arr9_u32):Int:=d.d0 + 65536 * (d.d1 + 65536 * (d.d2 + 65536 * (d.d3 + 65536 * (d.d4 + 65536 * (d.d5 + 65536 * (d.d6 + 65536 * (d.d7 + 65536 * d.d8)))))))
def lval (x:epactref01_long):Int:=if x.minus = true then -lsz x.digits else lsz x.digits
end Go.Dn

namespace Go.Dn
open Go
structure Low (d:Arr9_u32):Prop where
 z4:d.d4 = 0
 z5:d.d5 = 0
 z6:d.d6 = 0
 z7:d.d7 = 0
 z8:d.d8 = 0
end Go.Dn

namespace Go.Dn
open Go
theorem gcd_ok {a b:Int} (ha:In64 a) (hb:In64 b):gcd? (a.natAbs:Int) b.natAbs = some ((Nat.gcd a.natAbs b.natAbs:Nat):Int):=by
 unfold gcd?
 rw [if_pos (by unfold In64 at *;omega)]
 rfl
theorem gcd_lt {a b:Int} (ha:In64 a) (hb:In64 b):Nat.gcd a.natAbs b.natAbs≤9223372036854775808:=by
 unfold In64 at *
 by_cases h:a = 0
 ·subst h;simp;omega
 ·exact YT (Nat.gcd_le_left _ (by omega)) (by omega)
def lcmS (a b:Int):Int × Int:=if a = 0∨b = 0 then (0,0) else fitS (((a.natAbs / Nat.gcd a.natAbs b.natAbs:Nat):Int) * b.natAbs)
theorem safe_Lcm_eq {a b:Int} (ha:In64 a) (hb:In64 b):Z5j a b = some (lcmS a b):=by
 have:=gcd_lt ha hb
 unfold Z5j lcmS
 rw [Z4R ha,Z4R hb]
 by_cases h0:a = 0∨b = 0
 ·rw [if_pos h0];have:(((a.natAbs:Int) == 0) || ((b.natAbs:Int) == 0)) = true:=by simp;omega
  rw [this,cond_true]
 rw [if_neg h0]
 have h1:(((a.natAbs:Int) == 0) || ((b.natAbs:Int) == 0)) = false:=by simp;omega
 rw [h1,cond_false,gcd_ok ha hb]
 simp only [Y0]
 have gp:0 < Nat.gcd a.natAbs b.natAbs:=Nat.gcd_pos_of_pos_left _ (by omega)
 rw [nz?_ok (by omega)]
 simp only [Y0]
 have hd:((a.natAbs:Int)).tdiv ((Nat.gcd a.natAbs b.natAbs:Nat):Int) = ((a.natAbs / Nat.gcd a.natAbs b.natAbs:Nat):Int):=by
  rw [Int.tdiv_eq_ediv_of_nonneg (by omega)];rfl
 have hle:a.natAbs / Nat.gcd a.natAbs b.natAbs≤a.natAbs:=Nat.div_le_self _ _
 rw [hd]
 generalize a.natAbs / Nat.gcd a.natAbs b.natAbs = q at *
 rw [u64_id (a:=(q:Int)) (by unfold In64 at ha;omega),mul64_eq (by unfold Z6X;unfold In64 at ha;omega) (inU_abs hb)]
 simp only
 have hnn:0≤(q:Int) * b.natAbs:=Y0c (by omega) (by omega)
 generalize (q:Int) * b.natAbs = p at *
 by_cases hp:p / 18446744073709551616 = 0
 ·rw [Z5g hp,cond_false,Z6q _ (by unfold Z6X;omega)]
  have:p % 18446744073709551616 = p:=by omega
  rw [this];rfl
 ·rw [bne_t hp,cond_true,fitS_not (by unfold In64;omega)]
end Go.Dn

namespace Go.Dn
open Go
noncomputable def shiftF (f:Form) (m:Int):Form:=Form.mk f.Period f.Count ((List.range f.Core.length).map fun (j:Nat) => csz f ((j:Int) - m)) (f.Odd.map fun g => Granule.mk (g.Index + m) g.Ticks)
theorem raw_eq {f:Form} (hl:Lim f) (hs:Shape f) {i:Int} (hi:In64 i):(Z21 f i = some (csz f i,0)∧(∀ s ∈ csz f i,ZB s.From∧ZB s.To)∧Len (csz f i))∨Z21 f i = some ([],20):=by
 unfold Z21
 have hcnt:=hs.count
 have len0:Len ([] : List Span):=by show ([] : List Span).length * 16≤reachBytes;simp
 by_cases h0:f.Count = 0
 ·rw [Z5M h0,cond_true];have:csz f i = []:=if_pos h0
  rw [this];exact .inl ⟨rfl,by simp,len0⟩
 ·have hp:0 < f.Count:=by omega
  rw [Z3Y h0,cond_false,Z3s hi hl.count,Z6L hp];simp only [Y0];obtain ⟨c1,c2⟩:=Z1M hs h0 i
  rw [c1];simp only [Y0];have hcsz:csz f i = (Z0Z f i).map (ZW (i / f.Count * f.Period)):=by rw [Z5H hp];rfl
  by_cases hn:Z0Z f i = []
  ·rw [hcsz,hn];exact .inl ⟨rfl,by simp,len0⟩
  ·have hlen:¬ ((Z0Z f i).length:Int) = 0:=by have:=List.length_pos_iff.2 hn;omega
   rw [Z3Y hlen,cond_false];have hq:In64 (i / f.Count):=by
    unfold In64 at hi ⊢;have q1:i / f.Count≤9223372036854775807:=Int.ediv_le_of_le_mul hp (by
     have:(9223372036854775807:Int) * 1≤9223372036854775807 * f.Count:=Y0D (by omega) (by decide)
     omega)
    have q2 : -9223372036854775808≤i / f.Count:=Int.le_ediv_of_mul_le hp (by
     have:(9223372036854775808:Int) * 1≤9223372036854775808 * f.Count:=Y0D (by omega) (by decide)
     omega)
    exact ⟨q2,q1⟩
   rw [Z6o hq hl.period]
   rcases fit_or (i / f.Count * f.Period) with ⟨f1,f2⟩ | ⟨f1,f2⟩
   ·rw [f2];simp only [bne_self_eq_false,Y0i,cond_false]
    rcases Z5X (hl.sets _ c2).1 (hl.sets _ c2).2 f1 with ⟨m1,m2⟩ | ⟨m1,m2⟩
    ·rw [m2]
     left
     rw [hcsz];refine ⟨rfl,fun s hs' => ?_,by unfold Len;rw [Yk];exact (hl.sets _ c2).1⟩
     obtain ⟨x,hx,rfl⟩:=List.mem_map.1 hs'
     exact m1 x hx
    ·rw [m2];exact .inr rfl
   ·rw [f2];exact .inr rfl
structure Bnd (f:Form):Prop where
 core:f.Core.length≤12
 odd:f.Odd.length≤8
 sets:∀ l ∈ f.Core,l.length≤720
 ticks:∀ g ∈ f.Odd,g.Ticks.length≤720
theorem le_sum {α:Type} (g:α→Nat):∀ {l:List α} {x:α},x ∈ l→g x≤(l.map g).sum
 | y :: l,x,h => by
  rw [Y00,List.sum_cons]
  rcases List.mem_cons.1 h with rfl | h
  ·omega
  ·have:=le_sum g h;omega
theorem sum_le {α:Type} (g:α→Nat) {b:Nat}:∀ {l:List α},(∀ x ∈ l,g x≤b)→(l.map g).sum≤l.length * b
 | [],_ => by simp
 | y :: l,h => by
  rw [Y00,List.sum_cons,YD,Yd];have h1:=h y YE
  have h2:=sum_le g (l:=l) (b:=b) fun x hx => h x (YH _ hx)
  omega
theorem Z9u.bnd {f:Form} (h:Z9u f):Bnd f:=by
 obtain ⟨h1,h2,h3⟩:=h
 unfold Z59 at h3
 refine ⟨h1,h2,fun l hl => ?_,fun g hg => ?_⟩
 ·have:=le_sum List.length hl;omega
 ·have:=le_sum (fun g:Granule => g.Ticks.length) hg;omega
theorem Bnd.short {f:Form} (h:Bnd f):¬ Z6Z f:=by
 have h1:=sum_le List.length h.sets
 have h2:=sum_le (fun g:Granule => g.Ticks.length) h.ticks
 have h3:=h.core
 have h4:=h.odd
 unfold Z6Z Z59
 have h5:f.Core.length * 720≤12 * 720:=YG _ h3
 have h6:f.Odd.length * 720≤8 * 720:=YG _ h4
 omega
end Go.Dn

namespace Go.Dn
open Go
theorem right13_eq {f:Form} (hl:Lim f):∃ b,Z1G f = some b∧(b = true ↔ Z9u f∧RightF f):=by
 unfold Z1G
 obtain ⟨b,hb,hbs⟩:=Z7Y hl
 rw [hb]
 simp only [Y0]
 cases b with
 | false => exact ⟨false,rfl,fun h => (by cases h),fun h => by have:=hbs.2 h.1;cases this⟩
 | true =>
  have hsm:=hbs.1 rfl
  have hnl:¬ Z6Z f:=by unfold Z6Z;have:=hsm.1;have:=hsm.2.1;have:=hsm.2.2;omega
  rw [cond_true]
  rcases Z5Y hl with ⟨h,_⟩ | ⟨_,h1,h2⟩ | ⟨_,h1,h2⟩
  ·exact absurd h hnl
  ·rw [h2];exact ⟨true,rfl,fun _ => ⟨hsm,h1⟩,fun _ => rfl⟩
  ·rw [h2];exact ⟨false,rfl,fun h => (by cases h),fun h => absurd h.2 h1⟩
end Go.Dn

namespace Go.Dn
open Go
def seam (x s:Span):List Span:=if s.From = x.To + 1 then [⟨x.From,s.To⟩] else [x,s]
def glue (out l:List Span):List Span :=
 match out.getLast?,l with
 | some x,s :: l' => out.dropLast ++ (seam x s ++ l')
 | _,_ => out ++ l
theorem Z2T (a:List Span):glue a [] = a:=by
 unfold glue
 cases h:a.getLast? <;> simp
theorem Z2u (b:List Span):glue [] b = b:=by
 unfold glue
 cases b <;> simp
theorem Z1R (a:List Span) (x s:Span) (l:List Span):glue (a ++ [x]) (s :: l) = a ++ (seam x s ++ l):=by
 unfold glue
 simp
theorem Z6M {a:List Span} (h:a ≠ []):∃ b x,a = b ++ [x]:=⟨a.dropLast,a.getLast h,(List.dropLast_concat_getLast h).symm⟩
def gl (h:Int→List Span) (a:Int):Nat→List Span
 | 0 => []
 | n + 1 => glue (gl h a n) (h (a + n))
theorem gl_congr {h g:Int→List Span} {a b:Int} {n:Nat} (he:∀ j:Nat,j < n→h (a + j) = g (b + j)):gl h a n = gl g b n:=by
 induction n with
 | zero => rfl
 | succ n ih =>
  show glue (gl h a n) (h (a + n)) = glue (gl g b n) (g (b + n))
  rw [ih fun j hj => he j (by omega),he n (by omega)]
theorem seam_shift (d:Int) (x s:Span):seam (ZW d x) (ZW d s) = (seam x s).map (ZW d):=by
 unfold seam
 by_cases h:s.From = x.To + 1
 ·rw [if_pos h,if_pos (by unfold ZW;simp only;omega)];rfl
 ·rw [if_neg h,if_neg (by unfold ZW;simp only;omega)];rfl
theorem glue_shift (d:Int) (a b:List Span):glue (a.map (ZW d)) (b.map (ZW d)) = (glue a b).map (ZW d):=by
 by_cases ha:a = []
 ·subst ha;rw [Z2u,List.map_nil,Z2u]
 ·obtain ⟨a',x,rfl⟩:=Z6M ha
  cases b with
  | nil => rw [Z2T,List.map_nil,Z2T]
  | cons s l =>
   rw [Z1R,Y05,Y00,List.map_nil,Y00,Z1R,seam_shift,Y05,Y05]
theorem gl_shift {h:Int→List Span} {d p:Int} (hp:∀ i,h (i + p) = (h i).map (ZW d)) (a:Int):∀ n:Nat,gl h (a + p) n = (gl h a n).map (ZW d)
 | 0 => rfl
 | n + 1 => by
  show glue (gl h (a + p) n) (h (a + p + n)) = (glue (gl h a n) (h (a + n))).map (ZW d)
  rw [gl_shift hp a n,show a + p + (n:Int) = a + n + p by omega,hp,glue_shift]
theorem glue_len (a b:List Span):(glue a b).length≤a.length + b.length:=by
 by_cases ha:a = []
 ·subst ha;rw [Z2u];simp
 ·obtain ⟨a',x,rfl⟩:=Z6M ha
  cases b with
  | nil => rw [Z2T];simp
  | cons s l =>
   rw [Z1R];unfold seam
   split <;> simp <;> omega
end Go.Dn

namespace Go.Dn
open Go
def Z0g (l:List Span):Prop:=∀ s ∈ l,ZB s.From∧ZB s.To
theorem glue_ticks {a b:List Span} (ha:Z0g a) (hb:Z0g b):Z0g (glue a b):=by
 by_cases h:a = []
 ·subst h;rw [Z2u];exact hb
 ·obtain ⟨a',x,rfl⟩:=Z6M h
  cases b with
  | nil => rw [Z2T];exact ha
  | cons s l =>
   rw [Z1R];intro t ht;have hx:=ha x (by simp)
   have hs:=hb s (by simp)
   rcases List.mem_append.1 ht with h1 | h1
   ·exact ha t (YS _ h1)
   ·rcases List.mem_append.1 h1 with h2 | h2
    ·unfold seam at h2
     split at h2
     ·rw [YF] at h2;subst h2;exact ⟨hx.1,hs.2⟩
     ·rcases List.mem_cons.1 h2 with rfl | h2
      ·exact hx
      ·rw [YF] at h2;subst h2;exact hs
    ·exact hb t (YH _ h2)
theorem at?_last {a:List Span} {x:Span}:at? (a ++ [x]) (((a ++ [x]).length:Int) - 1) = some x:=by
 have h:=at?_nat (l:=a ++ [x]) (k:=a.length) (by simp)
 have e:(((a ++ [x]).length:Int) - 1) = (a.length:Int):=by simp
 rw [e,h]
 simp
theorem b0_eq {out l:List Span} {e:Int} (ho:out.length≤4000000) (hl:l.length≤4000000) (to:Z0g out) (tl:Z0g l):ZU.b0 (out,e) (l,0) = some ((glue out l,e),0):=by
 have hr:=Z57
 unfold ZU.b0
 simp only [bne_self_eq_false,cond_false]
 by_cases h:out = []
 ·subst h;rw [Zu (show ¬ ((([] : List Span).length:Int) > 0) by simp)]
  simp only [Y0J,cond_false,Y0];rw [app?_ok (by simp only [Yc];omega)]
  simp only [Y0,Jx.elim,Z2u,Y0T]
 ·obtain ⟨a',x,rfl⟩:=Z6M h
  have hlen:((a' ++ [x]).length:Int) = a'.length + 1:=by simp
  have hlenN:(a' ++ [x]).length = a'.length + 1:=by simp
  cases l with
  | nil =>
   rw [Zu (show ¬ ((([] : List Span).length:Int) > 0) by simp)]
   simp only [Y0b,cond_false,Y0];rw [app?_ok (by simp only [Yc];omega)]
   simp only [Y0,Jx.elim,Z2T,YN]
  | cons s l =>
   have hll:(s :: l).length = l.length + 1:=rfl
   have tx:=to x (by simp)
   unfold ZB at tx;rw [Zf (show ((a' ++ [x]).length:Int) > 0 by omega),Zf (show (((s :: l).length:Nat):Int) > 0 by rw [hll];omega)]
   simp only [Yh,cond_true];have e1:at? (s :: l) 0 = some s:=rfl
   have e2:at? (a' ++ [x]) (w64 (((a' ++ [x]).length:Int) - 1)) = some x:=by rw [ZL (by omega),at?_last]
   rw [e1];simp only [Y0];rw [e2];simp only [Y0];rw [ZL (x:=x.To + 1) (by omega)]
   by_cases hc:s.From = x.To + 1
   ·rw [Z5M hc];simp only [cond_true];have e3:cut? (s :: l) 1 (((s :: l).length:Nat):Int) = some l:=by
     unfold cut?;rw [if_pos (by rw [hll];omega)]
     simp
    rw [e3];simp only [Y0];have e4:(a' ++ [x]).set (w64 (((a' ++ [x]).length:Int) - 1)).toNat (Span.mk x.From s.To) = a' ++ [Span.mk x.From s.To]:=by
     rw [ZL (by omega),hlen,show ((a'.length:Int) + 1 - 1).toNat = a'.length by omega]
     simp
    rw [e4,app?_ok (by
     have:(a' ++ [Span.mk x.From s.To]).length = a'.length + 1:=by simp
     omega)]
    simp only [Y0,Jx.elim,Z1R];unfold seam;rw [if_pos hc]
    simp
   ·rw [Z3Y hc];simp only [cond_false,Y0];rw [app?_ok (by omega)]
    simp only [Y0,Jx.elim,Z1R];unfold seam;rw [if_neg hc]
    simp
theorem Z5i {h:Int→List Span} {a:Int} {B:Nat}:∀ {n:Nat},(∀ j:Nat,j < n→(h (a + j)).length≤B∧Z0g (h (a + j)))→(gl h a n).length≤n * B∧Z0g (gl h a n)
 | 0,_ => ⟨by simp [gl],fun s hs => by cases hs⟩
 | n + 1,hh => by
  obtain ⟨h1,h2⟩:=Z5i (n:=n) fun j hj => hh j (by omega)
  obtain ⟨h3,h4⟩:=hh n (by omega)
  refine ⟨?_,glue_ticks h2 h4⟩;have:=glue_len (gl h a n) (h (a + n))
  show (glue (gl h a n) (h (a + n))).length≤(n + 1) * B
  rw [Yd];omega
theorem ZA5 {tell:Int→Option (List Span × Int)} {h:Int→List Span} {a:Int} {m B:Nat} (hm:m * B≤4000000) (hm2:m≤4000000) (hB:B≤4000000) (ha : -4611686018427387904≤a∧a≤4611686018427387904)
  (ht:∀ j:Nat,j < m→(tell (a + j) = some (h (a + j),0)∧(h (a + j)).length≤B∧Z0g (h (a + j)))∨tell (a + j) = some ([],20)) :
  (ZU tell a m = some (gl h a m,0)∧∀ j:Nat,j < m→(h (a + j)).length≤B∧Z0g (h (a + j))∧tell (a + j) = some (h (a + j),0)) ∨
  (ZU tell a m = some ([],20)∧∃ j:Nat,j < m∧tell (a + j) = some ([],20)):=by
 obtain ⟨r,q1,q2⟩:=Z1F (step:=Z0A.s0 m tell a (Z1Q ZU.b0))
  (fun s => ∃ k:Nat,k≤m∧s = ((k:Int),((gl h a k,0),0))∧∀ j:Nat,j < k→(h (a + j)).length≤B∧Z0g (h (a + j))∧tell (a + j) = some (h (a + j),0))
  (fun s => m - s.1.toNat)
  (fun r => (r = .go ((gl h a m,0),0)∧∀ j:Nat,j < m→(h (a + j)).length≤B∧Z0g (h (a + j))∧tell (a + j) = some (h (a + j),0))∨((∃ o,r = .ret ((o,20),1))∧∃ j:Nat,j < m∧tell (a + j) = some ([],20))) (by
   rintro s ⟨k,hk,rfl,hall⟩;unfold Z0A.s0;simp only
   by_cases hlt:k < m
   ·rw [Zf (show (k:Int) < m by omega),cond_true,ZL (x:=a + (k:Int)) (by omega)]
    rcases ht k hlt with ⟨t1,t2,t3⟩ | t1
    ·left
     rw [t1];obtain ⟨g1,g2⟩:=Z5i (B:=B) (n:=k) fun j hj => ⟨(hall j hj).1,(hall j hj).2.1⟩
     have hkB:k * B≤m * B:=YG _ hk
     simp only [Y0,Z1Q,if_true];rw [b0_eq (by omega) (by omega) g2 t3]
     simp only [Y8,Y0,beq_self_eq_true,Ys,cond_false];rw [ZL (x:=(k:Int) + 1) (by omega)]
     refine ⟨_,rfl,⟨k + 1,hlt,by push_cast;rfl,fun j hj => ?_⟩,by simp only;omega⟩
     by_cases hjk:j = k
     ·subst hjk;exact ⟨t2,t3,t1⟩
     ·exact hall j (by omega)
    ·right
     rw [t1];exact ⟨_,rfl,.inr ⟨⟨_,rfl⟩,k,hlt,t1⟩⟩
   ·right
    obtain rfl:k = m:=by omega
    rw [Zu (by omega),cond_false]
    exact ⟨_,rfl,.inl ⟨rfl,hall⟩⟩) (0,(([],0),0)) ⟨0,Yb _,rfl,fun j hj => absurd hj (Nat.not_lt_zero _)⟩
 unfold ZU Z0A
 simp only [Y0]
 rw [q1]
 rcases q2 with ⟨rfl,h1⟩ | ⟨⟨o,rfl⟩,h1⟩
 ·exact .inl ⟨rfl,h1⟩
 ·exact .inr ⟨rfl,h1⟩
end Go.Dn

namespace Go.Dn
open Go
structure BndB (f:Form) (B:Nat):Prop where
 core:f.Core.length≤12
 odd:f.Odd.length≤8
 sets:∀ l ∈ f.Core,l.length≤B
 ticks:∀ g ∈ f.Odd,g.Ticks.length≤B
theorem Bnd.b {f:Form} (h:Bnd f):BndB f 720:=⟨h.core,h.odd,h.sets,h.ticks⟩
theorem BndB.small {f:Form} {B:Nat} (h:BndB f B) (hB:B≤720):Bnd f:=⟨h.core,h.odd,fun l hl => YT (h.sets l hl) hB,fun g hg => YT (h.ticks g hg) hB⟩
theorem Z9u.b60 {f:Form} (h:Z9u f):BndB f 60:=by
 obtain ⟨h1,h2,h3⟩:=h
 unfold Z59 at h3
 refine ⟨h1,h2,fun l hl => ?_,fun g hg => ?_⟩
 ·have:=le_sum List.length hl;omega
 ·have:=le_sum (fun g:Granule => g.Ticks.length) hg;omega
theorem csz_lenB {f:Form} {B:Nat} (hs:Shape f) (h:BndB f B) (i:Int):(csz f i).length≤B:=by
 unfold csz
 by_cases h0:f.Count = 0
 ·rw [if_pos h0];simp
 ·rw [if_neg h0];unfold cs;rw [Yk];exact h.sets _ (Z1M hs h0 i).2
theorem Z6E {f:Form} {B:Nat} (hs:Shape f) (h:BndB f B) (i:Int):(ZH f i).length≤B:=by
 by_cases ho:Z2p f i
 ·obtain ⟨x,hx,rfl⟩:=ho
  rw [Z0p hs.inc hx];exact h.ticks x hx
 ·rw [Z3l ho];exact csz_lenB hs h i
theorem rounds_eq {f:Form} (hs:Shape f) (h12:f.Core.length≤12) (h0:0 < f.Count) {m:Nat} (m1:1≤m) (m2:m≤6000):∃ u v:Nat,Z1C f m = some ((v:Int),f.Count * u)∧f.Count * (u:Int) = v * m∧1≤u∧u≤m∧1≤v∧v≤12:=by
 have hcnt:=hs.count
 unfold Z1C
 rw [Z3Y (show ¬ f.Count = 0 by omega),cond_false,safe_Lcm_eq (by unfold In64;omega) (by unfold In64;omega)]
 simp only [Y0]
 obtain ⟨c,hc⟩ : ∃ c:Nat,f.Count = c:=⟨f.Core.length,hcnt⟩
 rw [hc] at h0 ⊢
 have hcl:c≤12:=by omega
 unfold lcmS
 rw [if_neg (by omega)]
 simp only [Int.natAbs_natCast]
 have g0:0 < Nat.gcd c m:=Nat.gcd_pos_of_pos_left _ (by omega)
 obtain ⟨v,hv⟩:=Nat.gcd_dvd_left c m
 obtain ⟨u,hu⟩:=Nat.gcd_dvd_right c m
 generalize Nat.gcd c m = g at *
 have e1:c / g = v:=by rw [hv];exact Nat.mul_div_cancel_left v g0
 rw [e1]
 have v1:1≤v:=by
  rcases Nat.eq_zero_or_pos v with h | h
  ·rw [h] at hv;omega
  ·exact h
 have u1:1≤u:=by
  rcases Nat.eq_zero_or_pos u with h | h
  ·rw [h] at hu;omega
  ·exact h
 have vle:v≤c:=by rw [hv];exact Nat.le_mul_of_pos_left v g0
 have ule:u≤m:=by rw [hu];exact Nat.le_mul_of_pos_left u g0
 have e2:v * m = c * u:=by rw [hu,hv];exact (by rw [Nat.mul_comm v,Nat.mul_assoc,Nat.mul_comm u,← Nat.mul_assoc])
 have hb:v * m≤12 * 6000:=Y0q (by omega) m2
 have e3:((v:Int) * (m:Int)) = ((v * m:Nat):Int):=by push_cast;rfl
 rw [e3,fitS_of (by unfold In64;omega)]
 simp only
 rw [nz?_ok (show (m:Int) ≠ 0 by omega)]
 simp only [Y0]
 have e4:((v * m:Nat):Int).tdiv (m:Int) = (v:Int):=by
  push_cast
  exact Int.mul_tdiv_cancel _ (by omega)
 rw [e4,ZL (by omega)]
 refine ⟨u,v,?_,?_,u1,ule,v1,by omega⟩
 ·rw [e2];push_cast;rfl
 ·have:=congrArg (fun n:Nat => (n:Int)) e2
  push_cast at this
  exact this.symm
theorem sum_loop {f:Form} {B:Nat} (h12:f.Core.length≤12) (hB:B≤8640) (hs:∀ l ∈ f.Core,l.length≤B):∃ z,loopO (ZS.s0 f) (0,0) = some z∧0≤z∧z≤12 * B:=by
 obtain ⟨r,q1,q2⟩:=Z1F (step:=ZS.s0 f) (fun s => ∃ (k z:Nat),k≤f.Core.length∧s = ((z:Int),(k:Int))∧z≤k * B) (fun s => f.Core.length - s.2.toNat) (fun r => 0≤r∧r≤12 * B) (by
  rintro s ⟨k,z,hk,rfl,hz⟩;unfold ZS.s0;simp only
  by_cases hlt:k < f.Core.length
  ·left
   rw [Zf (show (k:Int) < f.Core.length by omega),cond_true,at?_nat hlt]
   simp only [Y0];have hk12:k * B≤12 * B:=YG _ (by omega)
   have hlen:=hs _ (YZ hlt)
   rw [ZL (x:=(k:Int) + 1) (by omega),ZL (x:=(z:Int) + (f.Core[k].length:Int)) (by omega)]
   exact ⟨_,rfl,⟨k + 1,z + f.Core[k].length,hlt,by push_cast;rfl,by rw [Yd];omega⟩,by simp only;omega⟩
  ·right
   have hk12:k * B≤12 * B:=YG _ (by omega)
   rw [Zu (by omega),cond_false]
   exact ⟨_,rfl,by omega,by omega⟩) (0,0) ⟨0,0,Yb _,rfl,by simp⟩
 exact ⟨r,q1,q2⟩
noncomputable def Z3b (f:Form) (m v:Nat):List (List Span):=(List.range v).map fun (i:Nat) => gl (csz f) ((i:Int) * m) m
theorem raw_tell {f:Form} {B:Nat} (hl:Lim f) (hs:Shape f) (hb:BndB f B) {i:Int} (hi:In64 i):(Z0D i f = some (csz f i,0)∧(csz f i).length≤B∧Z0g (csz f i))∨Z0D i f = some ([],20):=by
 unfold Z0D
 rcases raw_eq hl hs hi with ⟨e,t,_⟩ | e
 ·rw [e];exact .inl ⟨rfl,csz_lenB hs hb i,t⟩
 ·rw [e];exact .inr rfl
theorem get_tell {f:Form} {B:Nat} (hl:Lim f) (hs:Shape f) (hb:BndB f B) {i:Int} (hi:In64 i):(Z0E i f = some (ZH f i,0)∧(ZH f i).length≤B∧Z0g (ZH f i))∨Z0E i f = some ([],20):=by
 unfold Z0E
 rw [Z3F hl hs hi]
 by_cases h:ZB i∧fits f i
 ·rw [if_pos h];exact .inl ⟨rfl,Z6E hs hb i,h.2⟩
 ·rw [if_neg h];exact .inr rfl
theorem plain_core {f:Form} {B:Nat} (hl:Lim f) (hs:Shape f) (hb:BndB f B) {m u v:Nat} {p:Int} (m1:1≤m) (m2:m≤200) (hB:B≤8640) (hv:v≤12) (hp:(Za f.Period (w64 ((f.Count * (u:Int)).tdiv f.Count))).1 = p) :
  (loopO (ZS.s1 f m ((v:Int),f.Count * u)) (0,[]) = some (.go (Z3b f m v,p))∧∀ l ∈ Z3b f m v,l.length≤m * B∧Z0g l)∨(loopO (ZS.s1 f m ((v:Int),f.Count * u)) (0,[]) = some (.ret 20)∧∃ i j:Nat,i < v∧j < m∧Z0D ((i:Int) * m + j) f = some ([],20)):=by
 have hmB:m * B≤200 * 8640:=Y0q m2 hB
 obtain ⟨r,q1,q2⟩:=Z1F (step:=ZS.s1 f m ((v:Int),f.Count * u))
  (fun s => ∃ k:Nat,k≤v∧s = ((k:Int),Z3b f m k)∧∀ l ∈ Z3b f m k,l.length≤m * B∧Z0g l)
  (fun s => v - s.1.toNat)
  (fun r => (r = .go (Z3b f m v,p)∧∀ l ∈ Z3b f m v,l.length≤m * B∧Z0g l)∨(r = .ret 20∧∃ i j:Nat,i < v∧j < m∧Z0D ((i:Int) * m + j) f = some ([],20))) (by
   rintro s ⟨k,hk,rfl,hall⟩;unfold ZS.s1;simp only
   by_cases hlt:k < v
   ·have hkm:(k:Int) * m≤12 * 200:=by
     have:k * m≤12 * 200:=Y0q (by omega) m2
     have e:(k:Int) * m = ((k * m:Nat):Int):=by push_cast;rfl
     rw [e];omega
    have hkm0:0≤(k:Int) * m:=Y0c (by omega) (by omega)
    rw [Zf (show (k:Int) < v by omega),cond_true,ZL (x:=(k:Int) * m) (by omega)]
    rcases ZA5 (tell:=fun z0 => Z0D z0 f) (h:=csz f) (a:=(k:Int) * m) (m:=m) (B:=B) (by omega) (by omega) (by omega) (by omega) (fun j hj => raw_tell hl hs hb (by unfold In64;omega)) with ⟨g1,g2⟩ | ⟨g1,j,g2,g3⟩
    ·left
     rw [g1];simp only [Y0,bne_self_eq_false,cond_false];have hlen:(Z3b f m k).length = k:=by unfold Z3b;rw [Yk,List.length_range]
     rw [app?_ok (by
      have:=Z57
      simp only [Yw];omega)]
     simp only [Y0];rw [ZL (x:=(k:Int) + 1) (by omega)]
     have e:Z3b f m k ++ [gl (csz f) ((k:Int) * m) m] = Z3b f m (k + 1):=by unfold Z3b;rw [List.range_succ,Y05];rfl
     refine ⟨_,rfl,⟨k + 1,hlt,by rw [e];push_cast;rfl,fun l hl' => ?_⟩,by simp only;omega⟩
     rw [← e] at hl'
     rcases List.mem_append.1 hl' with h | h
     ·exact hall l h
     ·rw [YF] at h;subst h;exact Z5i (B:=B) (n:=m) fun j hj => ⟨(g2 j hj).1,(g2 j hj).2.1⟩
    ·right
     rw [g1];exact ⟨_,rfl,.inr ⟨rfl,k,j,hlt,g2,g3⟩⟩
   ·right
    obtain rfl:k = v:=by omega
    rw [Zu (by omega),cond_false,hp]
    exact ⟨_,rfl,.inl ⟨rfl,hall⟩⟩) (0,[]) ⟨0,Yb _,rfl,by simp [Z3b]⟩
 rcases q2 with ⟨rfl,h⟩ | ⟨rfl,h⟩
 ·exact .inl ⟨q1,h⟩
 ·exact .inr ⟨q1,h⟩
structure PlainG (f:Form) (m B:Nat) (g:Form):Prop where
 odd:g.Odd = []
 zero:f.Count = 0→g = Form.mk 0 0 [] []
 some:0 < f.Count→∃ u v:Nat,f.Count * (u:Int) = v * m∧1≤u∧u≤m∧1≤v∧v≤12∧g = Form.mk (f.Period * u) v (Z3b f m v) []
 sets:∀ l ∈ g.Core,l.length≤m * B∧Z0g l
 few:g.Core.length≤12
theorem plain_eq2 {f:Form} {B:Nat} (hl:Lim f) (hs:Shape f) (hb:BndB f B) {m:Nat} (m1:1≤m) (m2:m≤200) (hB:B≤8640) :
  ∃ g e,ZS f m = some (g,e)∧(e = 0→PlainG f m B g)∧(e ≠ 0→(e = 20∨e = 3)∧g = Form.mk 0 0 [] []):=by
 unfold ZS
 have hcnt:=hs.count
 have hper:=hs.per
 have hcore:=hb.core
 by_cases h0:f.Count = 0
 ·have:Z1C f m = some (0,0):=by unfold Z1C;rw [Z5M h0];rfl
  rw [this];refine ⟨_,_,rfl,fun _ => ⟨rfl,fun _ => rfl,fun h => by omega,by simp,by simp⟩,fun h => absurd rfl h⟩
 ·obtain ⟨u,v,r1,r2,u1,u2,v1,v2⟩:=rounds_eq hs hcore (by omega) m1 (by omega)
  rw [r1];simp only [Y0];rw [Z3Y (show ¬ (v:Int) = 0 by omega),cond_false]
  obtain ⟨z,hz,_⟩:=sum_loop (B:=B) hcore hB hb.sets
  rw [hz];simp only [Y0];rw [nz?_ok h0];simp only [Y0];have ediv:(f.Count * (u:Int)).tdiv f.Count = u:=Int.mul_tdiv_cancel_left _ h0
  by_cases hbig:w64 (z * w64 ((f.Count * (u:Int)).tdiv f.Count)) > 60000
  ·rw [Zf hbig];exact ⟨_,_,rfl,fun h => (by cases h),fun _ => ⟨(by first | exact .inl rfl | exact .inr rfl),rfl⟩⟩
  ·rw [Zu hbig];simp only [cond_false];have hmul:Za f.Period (w64 ((f.Count * (u:Int)).tdiv f.Count)) = (f.Period * u,0):=by
    rw [ediv,ZL (x:=(u:Int)) (by omega),Z6o (by unfold In64;omega) (by unfold In64;omega)]
    apply fitS_of;have h1:0≤f.Period * (u:Int):=Y0c hper.1 (by omega)
    have h2:f.Period * (u:Int)≤1099511627776 * u:=Yt hper.2 (by omega)
    unfold In64;omega
   rw [hmul];simp only [bne_self_eq_false,Y0j]
   by_cases hp:f.Period * (u:Int) > 1099511627776
   ·rw [Zf hp];exact ⟨_,_,rfl,fun h => (by cases h),fun _ => ⟨(by first | exact .inl rfl | exact .inr rfl),rfl⟩⟩
   ·rw [Zu hp];simp only [cond_false]
    rcases plain_core hl hs hb (m:=m) (u:=u) (v:=v) (p:=f.Period * u) m1 m2 hB v2 (by rw [hmul]) with ⟨c1,c2⟩ | ⟨c1,_⟩
    ·rw [c1];refine ⟨_,_,rfl,fun _ => ⟨rfl,fun h => absurd h h0,fun _ => ⟨u,v,r2,u1,u2,v1,v2,rfl⟩,c2,?_⟩,fun h => absurd rfl h⟩
     show (Z3b f m v).length≤12
     unfold Z3b;rw [Yk,List.length_range];exact v2
    ·rw [c1];exact ⟨_,_,rfl,fun h => (by cases h),fun _ => ⟨(by first | exact .inl rfl | exact .inr rfl),rfl⟩⟩
end Go.Dn

namespace Go.Dn
open Go
structure OddsG (f:Form) (m B k:Nat) (O:List Granule):Prop where
 of:∀ g ∈ O,∃ x ∈ f.Odd.take k,g.Index = x.Index / m
 all:∀ x ∈ f.Odd.take k,∃ g ∈ O,g.Index = x.Index / m
 tick:∀ g ∈ O,g.Ticks = gl (ZH f) (g.Index * m) m∧g.Ticks.length≤m * B∧Z0g g.Ticks
 inc:O.Pairwise (fun a b => a.Index < b.Index)
 len:O.length≤k
theorem last_at {α:Type} {a:List α} {x:α} (h:a.length≤1000):at? (a ++ [x]) (w64 (((a ++ [x]).length:Int) - 1)) = some x:=by
 have h:=at?_nat (l:=a ++ [x]) (k:=a.length) (by simp)
 have e:(((a ++ [x]).length:Int) - 1) = (a.length:Int):=by simp
 rw [e,ZL (by omega),h]
 simp
theorem odds_loop {f:Form} {B:Nat} (hl:Lim f) (hs:Shape f) (hb:BndB f B) {m:Nat} (m1:1≤m) (m2:m≤200) (hB:B≤8640) :
  (∃ O,loopO (Zg.s0 f m) (0,[]) = some (.go O)∧OddsG f m B f.Odd.length O) ∨
  (loopO (Zg.s0 f m) (0,[]) = some (.ret (Form.mk 0 0 [] [],20))∧∃ x ∈ f.Odd,∃ j:Nat,j < m∧Z0E (x.Index / m * m + j) f = some ([],20)):=by
 have hmB:m * B≤200 * 8640:=Y0q m2 hB
 have hodd:=hb.odd
 have hm0:(0:Int) < m:=by omega
 obtain ⟨r,q1,q2⟩:=Z1F (step:=Zg.s0 f m)
  (fun s => ∃ (k:Nat) (O:List Granule),k≤f.Odd.length∧s = ((k:Int),O)∧OddsG f m B k O)
  (fun s => f.Odd.length - s.1.toNat)
  (fun r => (∃ O,r = .go O∧OddsG f m B f.Odd.length O)∨(r = .ret (Form.mk 0 0 [] [],20)∧∃ x ∈ f.Odd,∃ j:Nat,j < m∧Z0E (x.Index / m * m + j) f = some ([],20))) (by
   rintro s ⟨k,O,hk,rfl,hO⟩;unfold Zg.s0;simp only
   by_cases hlt:k < f.Odd.length
   ·have hmem:=YZ hlt
    have htk:f.Odd.take (k + 1) = f.Odd.take k ++ [f.Odd[k]]:=(List.take_append_getElem hlt).symm
    have hti:=(hs.odd _ hmem).2
    have hbefore:∀ y ∈ f.Odd.take k,y.Index < f.Odd[k].Index:=fun y hy => by
     obtain ⟨j,hj,rfl⟩:=Y0F hy
     rw [List.getElem_take];rw [YR] at hj;exact hs.inc j k _ _ (by omega) (Y2 (by omega)) (Y2 hlt)
    unfold ZB at hti;rw [Zf (show (k:Int) < f.Odd.length by omega),cond_true,at?_nat hlt]
    simp only [Y0];generalize f.Odd[k] = x at *
    rw [Z3s (by unfold In64;omega) (by unfold In64;omega),Z6L hm0]
    simp only [Y0];have q1:=Yx x.Index m
    have q2:=Yf x.Index (show (m:Int) ≠ 0 by omega)
    have q3:=Yq x.Index hm0
    have hcond:∃ b:Bool,(bif (decide ((O.length:Int) > 0)) then (at? O (w64 ((O.length:Int) - 1))).bind fun x4 => some (x4.Index == x.Index / m) else some false) = some b ∧
      (b = true→∃ g ∈ O,g.Index = x.Index / m)∧(b = false→∀ g ∈ O,g.Index < x.Index / m):=by
     by_cases hn:O = []
     ·subst hn;exact ⟨false,rfl,fun h => (by cases h),fun _ g hg => by cases hg⟩
     ·have hb1:O = O.dropLast ++ [O.getLast hn]:=(List.dropLast_concat_getLast hn).symm
      have hlen:=hO.len
      have hp:=hO.inc
      have hle:∀ g ∈ O,g.Index≤x.Index / m:=fun g hg => by
       obtain ⟨y,hy,e⟩:=hO.of g hg
       rw [e];exact Int.ediv_le_ediv hm0 (Y0g (hbefore y hy))
      generalize O.dropLast = a at *
      generalize O.getLast hn = z at *
      subst hb1;have ha:a.length≤1000:=by rw [YX] at hlen;omega
      rw [Zf (show (((a ++ [z]).length:Nat):Int) > 0 by simp),cond_true,last_at ha]
      simp only [Y0];refine ⟨_,rfl,fun h => ⟨z,by simp,by simpa using h⟩,fun h g hg => ?_⟩
      have hz:z.Index ≠ x.Index / m:=by simpa using h
      have hz2:=hle z (by simp)
      rw [List.pairwise_append] at hp
      rcases List.mem_append.1 hg with h1 | h1
      ·have:=hp.2.2 g h1 z (by simp);omega
      ·rw [YF] at h1;subst h1;omega
    obtain ⟨b,b1,b2,b3⟩:=hcond
    rw [b1];simp only [Y0];cases b with
    | true =>
     left
     obtain ⟨g,g1,g2⟩:=b2 rfl
     simp only [cond_true,Y0,Jx.elim];rw [ZL (x:=(k:Int) + 1) (by omega)]
     refine ⟨_,rfl,⟨k + 1,O,hlt,by push_cast;rfl,?_,?_,hO.tick,hO.inc,by have:=hO.len;omega⟩,by simp only;omega⟩
     ·intro y hy;obtain ⟨w,w1,w2⟩:=hO.of y hy
      exact ⟨w,by rw [htk];exact YS _ w1,w2⟩
     ·intro y hy;rw [htk] at hy
      rcases List.mem_append.1 hy with h | h
      ·exact hO.all y h
      ·rw [YF] at h;subst h;exact ⟨g,g1,g2⟩
    | false =>
     have b4:=b3 rfl
     simp only [cond_false];have hqm:x.Index / m * m = x.Index - x.Index % m:=by rw [Y0A];omega
     rw [ZL (x:=x.Index / m * m) (by omega)]
     rcases ZA5 (tell:=fun z0 => Z0E z0 f) (h:=ZH f) (a:=x.Index / m * m) (m:=m) (B:=B) (by omega) (by omega) (by omega) (by omega) (fun j hj => get_tell hl hs hb (by unfold In64;omega)) with ⟨g1,g2⟩ | ⟨g1,j,g2,g3⟩
     ·left
      rw [g1];simp only [Y0,bne_self_eq_false,cond_false];have hlen:=hO.len
      rw [app?_ok (by
       have:=Z57
       simp only [Yw];omega)]
      simp only [Y0,Jx.elim];rw [ZL (x:=(k:Int) + 1) (by omega)]
      obtain ⟨f1,f2⟩:=Z5i (h:=ZH f) (a:=x.Index / m * m) (B:=B) (n:=m) fun j hj => ⟨(g2 j hj).1,(g2 j hj).2.1⟩
      refine ⟨_,rfl,⟨k + 1,_,hlt,by push_cast;rfl,?_,?_,?_,?_,by rw [YX,Yw];omega⟩,by simp only;omega⟩
      ·intro y hy
       rcases List.mem_append.1 hy with h | h
       ·obtain ⟨w,w1,w2⟩:=hO.of y h
        exact ⟨w,by rw [htk];exact YS _ w1,w2⟩
       ·rw [YF] at h;subst h;exact ⟨x,by rw [htk];exact Ye _ (List.mem_singleton.2 rfl),rfl⟩
      ·intro y hy;rw [htk] at hy
       rcases List.mem_append.1 hy with h | h
       ·obtain ⟨g,g3,g4⟩:=hO.all y h
        exact ⟨g,YS _ g3,g4⟩
       ·rw [YF] at h;subst h;exact ⟨_,Ye _ (List.mem_singleton.2 rfl),rfl⟩
      ·intro y hy
       rcases List.mem_append.1 hy with h | h
       ·exact hO.tick y h
       ·rw [YF] at h;subst h;exact ⟨rfl,f1,f2⟩
      ·rw [List.pairwise_append];refine ⟨hO.inc,by simp,fun a ha c hc => ?_⟩
       rw [YF] at hc;subst hc;exact b4 a ha
     ·right
      rw [g1];exact ⟨_,rfl,.inr ⟨rfl,x,hmem,j,g2,g3⟩⟩
   ·right
    obtain rfl:k = f.Odd.length:=by omega
    rw [Zu (by omega),cond_false]
    exact ⟨_,rfl,.inl ⟨O,rfl,hO⟩⟩) (0,[]) ⟨0,[],Yb _,rfl,by simp,by simp,by simp,by simp,by simp⟩
 rcases q2 with ⟨O,rfl,h⟩ | ⟨rfl,h⟩
 ·exact .inl ⟨O,q1,h⟩
 ·exact .inr ⟨q1,h⟩
end Go.Dn

namespace Go.Dn
open Go
structure GroupG (f:Form) (m B:Nat) (F:Form):Prop where
 csz:∀ i,csz F i = gl (csz f) (i * m) m
 set:∀ i,ZH F i = gl (ZH f) (i * m) m
 bnd:BndB F (m * B)
theorem quot_tick {n p:Int} (hp:0 < p) (hn:ZB n):ZB (n / p):=by
 unfold ZB at *
 constructor
 ·exact Int.le_ediv_of_mul_le hp (by
   have:(1099511627776:Int) * 1≤1099511627776 * p:=Y0D (by omega) (by decide)
   omega)
 ·exact Int.ediv_le_of_le_mul hp (by
   have:(1099511627776:Int) * 1≤1099511627776 * p:=Y0D (by omega) (by decide)
   omega)
theorem gl_none {h:Int→List Span} (hn:∀ i,h i = []) (a:Int):∀ n:Nat,gl h a n = []
 | 0 => rfl
 | n + 1 => by
  show glue (gl h a n) (h (a + n)) = []
  rw [gl_none hn a n,hn,Z2u]
theorem groupG_of {f g:Form} {m B:Nat} {O:List Granule} (hs:Shape f) (m1:1≤m) (hP:PlainG f m B g) (hO:OddsG f m B f.Odd.length O) (hF:Shape (Form.mk g.Period g.Count g.Core O)) (h8:f.Odd.length≤8) :
  GroupG f m B (Form.mk g.Period g.Count g.Core O):=by
 have hm0:(0:Int) < m:=by omega
 have hcnt:=hs.count
 have hz:∀ i,Go.Dn.csz (Form.mk g.Period g.Count g.Core O) i = gl (Go.Dn.csz f) (i * m) m:=fun i => by
  by_cases h0:f.Count = 0
  ·have e:=hP.zero h0
   subst e;have hn:∀ j,Go.Dn.csz f j = []:=fun j => if_pos h0
   rw [gl_none hn];exact if_pos rfl
  ·obtain ⟨u,v,r2,u1,u2,v1,v2,e⟩:=hP.some (by omega)
   subst e;have hv0:(v:Int) ≠ 0:=by omega
   rw [Z5H (show (0:Int) < v by omega)]
   show (Z0Z _ i).map (ZW (i / (v:Int) * (f.Period * u))) = _
   have i0:=Yf i hv0
   have i1:=Yq i (show (0:Int) < v by omega)
   have e1:Z0Z (Form.mk (f.Period * (u:Int)) (v:Int) (Z3b f m v) O) i = gl (Go.Dn.csz f) (i % v * m) m:=by
    show (Z3b f m v).getD (i % (v:Int)).toNat [] = _
    unfold Z3b;rw [YM,YL,List.getElem?_range (by omega)]
    simp only [Y8,Y0R];rw [Y0G i0]
   have e2:i * m = i % v * m + f.Count * (u * (i / v)):=by
    have h1:=Yx i v
    have h2:f.Count * (u * (i / v)) = v * m * (i / v):=by rw [← Yy,r2]
    rw [h2]
    conv => lhs;rw [← h1]
    rw [Y0p,Yy,Yy,Y0A (i / v) (m:Int)]
   rw [e1,e2];have sh:∀ j,Go.Dn.csz f (j + f.Count * (u * (i / v))) = (Go.Dn.csz f j).map (ZW (u * (i / v) * f.Period)):=fun j => by
    rw [Z5H (by omega)]
    exact Z80 h0 j _
   rw [gl_shift sh]
   congr 2
   rw [Y0A f.Period,← Yy,Y0A (i / (v:Int)) (u:Int)]
 refine ⟨hz,fun i => ?_,⟨hP.few,YT hO.len h8,fun l hl => (hP.sets l hl).1,fun x hx => (hO.tick x hx).2.1⟩⟩
 by_cases ho:Z2p (Form.mk g.Period g.Count g.Core O) i
 ·obtain ⟨x,hx,rfl⟩:=ho
  rw [Z0p hF.inc hx,(hO.tick x hx).1]
 ·rw [Z3l ho,hz];refine gl_congr fun j hj => ?_
  refine (Z3l fun hx => ho ?_).symm
  obtain ⟨x,hx,e⟩:=hx
  obtain ⟨y,hy,e2⟩:=hO.all x (by rw [Y0I];exact hx)
  refine ⟨y,hy,?_⟩;rw [e2,e,Int.add_comm,Int.add_mul_ediv_right _ _ (by omega),Int.ediv_eq_zero_of_lt (by omega) (by omega),Int.zero_add]
theorem group_eq2 {f:Form} {B:Nat} (hl:Lim f) (hs:Shape f) (hb:BndB f B) {m:Nat} (m1:1≤m) (m2:m≤200) (hB:B≤8640) :
  ∃ g e,Zg f m = some (g,e)∧(e = 0→∃ F,GroupG f m B F∧Lim F∧RightF F∧¬ Z6Z F∧Zc F = some g)∧(e ≠ 0→(e = 20∨e = 3)∧g = Form.mk 0 0 [] []):=by
 have hmB:m * B≤200 * 8640:=Y0q m2 hB
 unfold Zg
 rw [Zu (show ¬ (m:Int) < 1 by omega),Zu (show ¬ (m:Int) > 6000 by omega)]
 simp only [Y0i,cond_false]
 obtain ⟨p,e,p1,p2,p3⟩:=plain_eq2 hl hs hb m1 m2 hB
 rw [p1]
 simp only [Y0]
 by_cases he:e = 0
 ·have hP:=p2 he
  subst he;simp only [bne_self_eq_false,cond_false]
  rcases odds_loop hl hs hb m1 m2 hB with ⟨O,o1,hO⟩ | ⟨o1,_⟩
  ·rw [o1];simp only [Y0,Jx.elim];generalize hFF:Form.mk p.Period p.Count p.Core O = F;have lim:Lim F:=by
    rw [← hFF];have r:=Z11
    have l8:=hO.len
    have h8:=hb.odd
    have h12:=hP.few
    have hper:=hs.per
    have s64:∀ {l:List Span},Z0g l→Sp64 l:=fun {l} h s hs' => ⟨Z27 (h s hs').1,Z27 (h s hs').2⟩
    refine ⟨?_,fun l hl' => ⟨?_,s64 (hP.sets l hl').2⟩,?_,fun g hg => ⟨?_,?_,s64 (hO.tick g hg).2.2⟩,?_,?_⟩
    ·show p.Core.length * 24≤reachBytes
     omega
    ·have:=(hP.sets l hl').1
     unfold Len;omega
    ·show O.length * 32≤reachBytes
     omega
    ·obtain ⟨x,hx,e⟩:=hO.of g hg
     have hx':=(hs.odd x (Yo hx)).2
     have h1:=Yx x.Index m
     have h2:=Yf x.Index (show (m:Int) ≠ 0 by omega)
     have h3:=Yq x.Index (show (0:Int) < m by omega)
     have h4:=quot_tick (n:=x.Index) (p:=(m:Int)) (by omega) hx'
     rw [e];exact Z27 h4
    ·have:=(hO.tick g hg).2.1
     unfold Len;omega
    ·show In64 p.Count
     by_cases h0:f.Count = 0
     ·rw [hP.zero h0];unfold In64;simp
     ·obtain ⟨u,v,_,_,_,_,v2,e⟩:=hP.some (by have:=hs.count;omega)
      rw [e];unfold In64;simp only;omega
    ·show In64 p.Period
     by_cases h0:f.Count = 0
     ·rw [hP.zero h0];unfold In64;simp
     ·obtain ⟨u,v,_,_,u2,_,_,e⟩:=hP.some (by have:=hs.count;omega)
      rw [e];have h1:0≤f.Period * (u:Int):=Y0c hper.1 (by omega)
      have h2:f.Period * (u:Int)≤1099511627776 * u:=Yt hper.2 (by omega)
      unfold In64;simp only;omega
   unfold Z1v
   rcases Z5Y lim with ⟨_,h⟩ | ⟨hnl,h3,h4⟩ | ⟨_,_,h⟩
   ·rw [h];exact ⟨_,_,rfl,fun h => (by cases h),fun _ => ⟨(by first | exact .inl rfl | exact .inr rfl),rfl⟩⟩
   ·rw [h4];simp only [Y0,beq_self_eq_true,cond_true];obtain ⟨c,_,hc⟩:=Z5Q lim h3.shape
    rw [hc];refine ⟨_,_,rfl,fun _ => ⟨F,?_,lim,h3,hnl,hc⟩,fun h => absurd rfl h⟩
    rw [← hFF] at h3 ⊢;exact groupG_of hs m1 hP hO h3.shape hb.odd
   ·rw [h];exact ⟨_,_,rfl,fun h => (by cases h),fun _ => ⟨(by first | exact .inl rfl | exact .inr rfl),rfl⟩⟩
  ·rw [o1];exact ⟨_,_,rfl,fun h => (by cases h),fun _ => ⟨(by first | exact .inl rfl | exact .inr rfl),rfl⟩⟩
 ·have:(e != 0) = true:=by simpa using he
  rw [this];exact ⟨_,_,rfl,fun h => absurd h he,fun _ => ⟨(p3 he).1,rfl⟩⟩
end Go.Dn

namespace Go.Dn
open Go
def insG:Bool→List Int→Int→List Int
 | p,[],x => if p then [] else [x]
 | p,y :: l,x => if y = x then y :: insG true l x else if p then y :: insG true l x else if x < y then x :: y :: insG true l x else y :: insG false l x
end Go.Dn

namespace Go.Dn
open Go
def hasT (l:List Span) (t:Int):Prop:=∃ u ∈ l,u.From≤t∧t≤u.To
def midT (l:List Span):Prop:=∀ u ∈ l,-4611686018427387904≤u.From∧u.From≤4611686018427387904∧-4611686018427387904≤u.To∧u.To≤4611686018427387904
def isPl (l:List Span) (z:Int):Prop:=∃ u ∈ l,z = u.From∨z = u.To + 1
end Go.Dn

namespace Go.Dn
open Go
def AheadA (a b:List Span):Prop:=∀ x ∈ a,∀ y ∈ b,x.To < y.From
theorem Z8G {l:List Span} (h:RightL l) {s:Span} (hs:s ∈ l):fstT l≤s.From∧s.From≤s.To∧s.To≤lstT l:=by
 induction l generalizing s with
 | nil => cases hs
 | cons a l ih =>
  have h0:=h.ok 0 a rfl
  cases l with
  | nil =>
   rw [YF] at hs;subst hs;exact ⟨Y0a _,h0.2.2,Y0a _⟩
  | cons b l =>
   have hg:=h.gap 0 a b rfl rfl
   have e1:fstT (a :: b :: l) = a.From:=rfl
   have e2:lstT (a :: b :: l) = lstT (b :: l):=by unfold lstT;simp
   have e3:fstT (b :: l) = b.From:=rfl
   have hb:=ih h.tail (s:=b) YE
   rw [e1,e2]
   rcases List.mem_cons.1 hs with rfl | hs
   ·refine ⟨Y0a _,h0.2.2,?_⟩;omega
   ·have:=ih h.tail hs
    omega
end Go.Dn

namespace Go.Dn
open Go
def dst (i b k:Int):Int:=(k - i) * b
def NextS (f:Form) (i b:Int) (r:Int × Bool):Prop:=(r.2 = true∧0≤dst i b r.1∧ZB r.1∧ZH f r.1 ≠ []∧∀ k,0≤dst i b k→ZB k→ZH f k ≠ []→dst i b r.1≤dst i b k)∨(r.2 = false∧r.1 = 0∧∀ k,0≤dst i b k→ZB k→ZH f k = [])
end Go.Dn

namespace Go.Dn
open Go
end Go.Dn

namespace Go.Dn
open Go
def fullK (f:Form) (k:Nat):List (List Span):=(f.Core.take k).filter (fun l => decide (l.length > 0))
def ChainL (F:List (List Span)):Prop:=∀ (k:Nat) (a b:List Span),F[k]? = some a→F[k + 1]? = some b→lstT a < fstT b
end Go.Dn

namespace Go.Dn
open Go
def ordS (f:Form) (last:List Span):List Int→Prop
 | [] => True
 | x :: l => (ZB x∧fits f x)∧AheadA last (ZH f x)∧ordS f (if ZH f x = [] then last else ZH f x) l
end Go.Dn

namespace Go.Dn
open Go
theorem lim_none:Lim (Form.mk 0 0 [] []):=by
 have r:=Z11
 refine ⟨?_,fun l h => (by cases h),?_,fun g h => (by cases h),?_,?_⟩ <;> simp [In64]
end Go.Dn

namespace Go.Dn
open Go
def bareG (i:Int):Granule:=⟨i,[]⟩
end Go.Dn

namespace Go.Dn
open Go
def Z4u (l:List Span):Prop:=l.Pairwise (fun x y => x.To + 1 < y.From)∧∀ s ∈ l,s.From≤s.To
theorem normL_nil:Z4u []:=⟨List.Pairwise.nil,fun s h => by cases h⟩
theorem normL_init {o:List Span} {y:Span} (h:Z4u (o ++ [y])):Z4u o∧y.From≤y.To∧∀ s ∈ o,s.To + 1 < y.From:=by
 obtain ⟨p1,p2,p3⟩:=List.pairwise_append.1 h.1
 exact ⟨⟨p1,fun s hs => h.2 s (YS _ hs)⟩,h.2 y (by simp),fun s hs => p3 s hs y (by simp)⟩
theorem hasT_app {a b:List Span} {t:Int}:hasT (a ++ b) t ↔ hasT a t∨hasT b t:=by
 unfold hasT
 constructor
 ·rintro ⟨u,hu,h⟩
  rcases List.mem_append.1 hu with hu | hu
  ·exact .inl ⟨u,hu,h⟩
  ·exact .inr ⟨u,hu,h⟩
 ·rintro (⟨u,hu,h⟩ | ⟨u,hu,h⟩)
  ·exact ⟨u,YS _ hu,h⟩
  ·exact ⟨u,Ye _ hu,h⟩
theorem hasT_cons {x:Span} {b:List Span} {t:Int}:hasT (x :: b) t ↔ (x.From≤t∧t≤x.To)∨hasT b t:=by
 unfold hasT
 constructor
 ·rintro ⟨u,hu,h⟩
  rcases List.mem_cons.1 hu with rfl | hu
  ·exact .inl h
  ·exact .inr ⟨u,hu,h⟩
 ·rintro (h | ⟨u,hu,h⟩)
  ·exact ⟨x,YE,h⟩
  ·exact ⟨u,YH _ hu,h⟩
theorem hasT_nil {t:Int}:¬ hasT [] t:=fun ⟨u,hu,_⟩ => by cases hu
theorem ZB1:∀ {l:List Span},RightL l→Z4u l
 | [],_ => normL_nil
 | x :: l,h => by
  obtain ⟨p1,p2⟩:=ZB1 h.tail
  refine ⟨List.pairwise_cons.2 ⟨fun y hy => ?_,p1⟩,fun s hs => ?_⟩
  ·have h1:=(Z8G h.tail hy).1
   cases l with
   | nil => cases hy
   | cons z l =>
    have h2:=h.gap 0 x z rfl rfl
    have h3:fstT (z :: l) = z.From:=rfl
    omega
  ·rcases List.mem_cons.1 hs with rfl | hs
   ·exact (h.ok 0 _ rfl).2.2
   ·exact p2 s hs
theorem glue_norm {a b:List Span} (ha:Z4u a) (hb:Z4u b) (ho:∀ x ∈ a,∀ y ∈ b,x.To < y.From):Z4u (glue a b)∧∀ t,hasT (glue a b) t ↔ hasT a t∨hasT b t:=by
 by_cases h:a = []
 ·subst h;rw [Z2u];exact ⟨hb,fun t => ⟨.inr,fun h => h.resolve_left hasT_nil⟩⟩
 obtain ⟨a',x,rfl⟩:=Z6M h
 cases b with
 | nil =>
  rw [Z2T];exact ⟨ha,fun t => ⟨.inl,fun h => h.resolve_right hasT_nil⟩⟩
 | cons s l =>
  obtain ⟨q1,q2,q3⟩:=normL_init ha
  obtain ⟨b1,b2⟩:=List.pairwise_cons.1 hb.1
  have hs:=hb.2 s YE
  have hxs:=ho x (by simp) s YE
  have hl:∀ y ∈ l,y.From≤y.To:=fun y hy => hb.2 y (YH _ hy)
  rw [Z1R];unfold seam
  by_cases hc:s.From = x.To + 1
  ·rw [if_pos hc];refine ⟨⟨List.pairwise_append.2 ⟨q1.1,List.pairwise_cons.2 ⟨b1,b2⟩,fun p hp q hq => ?_⟩,fun p hp => ?_⟩,fun t => ?_⟩
   ·have h1:=q3 p hp
    rcases List.mem_cons.1 hq with rfl | hq
    ·exact h1
    ·have:=b1 q hq;omega
   ·rcases List.mem_append.1 hp with hp | hp
    ·exact q1.2 p hp
    ·rcases List.mem_cons.1 hp with rfl | hp
     ·show x.From≤s.To;omega
     ·exact hl p hp
   ·have:(x.From≤t∧t≤s.To) ↔ (x.From≤t∧t≤x.To)∨(s.From≤t∧t≤s.To):=by omega
    simp only [hasT_app,hasT_cons,hasT_nil,or_false,or_assoc,this]
  ·rw [if_neg hc];have e:a' ++ ([x,s] ++ l) = (a' ++ [x]) ++ (s :: l):=by simp
   rw [e];refine ⟨⟨List.pairwise_append.2 ⟨ha.1,hb.1,fun p hp q hq => ?_⟩,fun p hp => ?_⟩,fun t => hasT_app⟩
   ·have hpx:p.To + 1 < x.From∨p = x:=by
     rcases List.mem_append.1 hp with hp | hp
     ·exact .inl (q3 p hp)
     ·rw [YF] at hp;exact .inr hp
    have hqs:s.To + 1 < q.From∨q = s:=by
     rcases List.mem_cons.1 hq with hq | hq
     ·exact .inr hq
     ·exact .inl (b1 q hq)
    rcases hpx with h1 | rfl <;> rcases hqs with h2 | rfl <;> omega
   ·rcases List.mem_append.1 hp with hp | hp
    ·exact ha.2 p hp
    ·exact hb.2 p hp
theorem glue_to {a b:List Span} {x:Span} (h:x ∈ glue a b):(∃ s ∈ a,s.To = x.To)∨∃ s ∈ b,s.To = x.To:=by
 by_cases ha:a = []
 ·subst ha;rw [Z2u] at h;exact .inr ⟨x,h,rfl⟩
 obtain ⟨a',y,rfl⟩:=Z6M ha
 cases b with
 | nil => rw [Z2T] at h;exact .inl ⟨x,h,rfl⟩
 | cons s l =>
  rw [Z1R] at h
  rcases List.mem_append.1 h with h | h
  ·exact .inl ⟨x,YS _ h,rfl⟩
  ·rcases List.mem_append.1 h with h | h
   ·unfold seam at h
    split at h
    ·rw [YF] at h;subst h;exact .inr ⟨s,YE,rfl⟩
    ·rcases List.mem_cons.1 h with rfl | h
     ·exact .inl ⟨x,by simp,rfl⟩
     ·rw [YF] at h;subst h;exact .inr ⟨x,YE,rfl⟩
   ·exact .inr ⟨x,YH _ h,rfl⟩
theorem gl_to {h:Int→List Span} {a:Int} {x:Span}:∀ {n:Nat},x ∈ gl h a n→∃ j:Nat,j < n∧∃ s ∈ h (a + j),s.To = x.To
 | 0,hx => by cases hx
 | n + 1,hx => by
  rcases glue_to hx with ⟨s,hs,e⟩ | ⟨s,hs,e⟩
  ·obtain ⟨j,h1,u,h2,h3⟩:=gl_to hs
   exact ⟨j,by omega,u,h2,by rw [h3,e]⟩
  ·exact ⟨n,by omega,s,hs,e⟩
end Go.Dn

namespace Go.Dn
open Go
abbrev UnS:=((List Span) × (List Span) × (List Span) × Int × Bool) × Nat
noncomputable def Z6n:Bool × Bool × UnS→Option ((Bool × Bool × UnS) ⊕ Jx UnS UnS) :=
 Z0F.s0 (S:=UnS) (fun s => s.1.2.2.1) (fun s v => ((s.1.1,s.1.2.1,v,s.1.2.2.2.1,s.1.2.2.2.2),s.2)) (fun s => s.1.2.1) (fun s v => ((s.1.1,v,s.1.2.2.1,s.1.2.2.2.1,s.1.2.2.2.2),s.2)) (Z1Q (Z1L.b0 (fun z0 z1 => some (Z2H z0 z1))))
def unSt (iA iB:Bool) (out a b:List Span) (f:Int) (i:Bool):Bool × Bool × UnS:=(iA,iB,((out,b,a,f,i),0))
theorem Z9P (i:Bool) (at':Int):Z0Y [] i at' = some ([],i):=by
 unfold Z0Y
 cases i <;> rfl
theorem Z8z {s:Span} {l:List Span} (hs:ZB s.To) (hl:l.length≤100000000) {at':Int} (h:at' = s.To + 1):Z0Y (s :: l) true at' = some (l,false):=by
 unfold ZB at hs
 unfold Z0Y
 have e:at? (s :: l) 0 = some s:=rfl
 rw [Zf (show (((s :: l).length:Nat):Int) > 0 by simp only [YD];omega),e]
 simp only [Yh,cond_true,Y0]
 rw [ZL (by omega),Z5M h.symm]
 simp only [cond_true]
 have e3:cut? (s :: l) 1 (((s :: l).length:Nat):Int) = some l:=by
  unfold cut?;rw [if_pos (by simp only [YD];omega)]
  simp
 rw [e3]
 rfl
theorem Z8j {s:Span} {l:List Span} {at':Int} (h:at' = s.From):Z0Y (s :: l) false at' = some (s :: l,true):=by
 unfold Z0Y
 have e:at? (s :: l) 0 = some s:=rfl
 rw [Zf (show (((s :: l).length:Nat):Int) > 0 by simp only [YD];omega),e]
 simp only [Y0b,cond_false,Y0,Y0B,Yh,cond_true]
 rw [Z5M h.symm]
 rfl
theorem past_not {s:Span} {l:List Span} {at':Int} (h:s.From ≠ at'):Z0Y (s :: l) false at' = some (s :: l,false):=by
 unfold Z0Y
 have e:at? (s :: l) 0 = some s:=rfl
 rw [Zf (show (((s :: l).length:Nat):Int) > 0 by simp only [YD];omega),e]
 simp only [Y0b,cond_false,Y0,Y0B,Yh,cond_true]
 rw [Z3Y h]
 rfl
noncomputable def unAt (iA iB:Bool) (a b:List Span):Option Int :=
 bif ((a.length:Int) == 0) then (ZV b iB).bind fun x1 => some x1
 else (bif ((b.length:Int) == 0) then (ZV a iA).bind fun x2 => some x2
  else (ZV a iA).bind fun x3 => (ZV b iB).bind fun x4 => some (iMin x3 x4))
theorem bord_in {s:Span} {l:List Span} (hs:ZB s.To):ZV (s :: l) true = some (s.To + 1):=by
 unfold ZB at hs
 unfold ZV
 have e:at? (s :: l) 0 = some s:=rfl
 rw [e]
 simp only [cond_true,Y0]
 rw [ZL (by omega)]
theorem Z5l {s:Span} {l:List Span}:ZV (s :: l) false = some s.From:=rfl
theorem unAt_a {iA iB:Bool} {a:List Span} {x:Int} (hl:a.length≤100000000) (hn:a ≠ []) (h:ZV a iA = some x):unAt iA iB a [] = some x:=by
 unfold unAt
 have:=List.length_pos_iff.2 hn
 rw [Z3Y (show ¬ (a.length:Int) = 0 by omega),cond_false,Z5M (show (([] : List Span).length:Int) = 0 from rfl),cond_true,h]
 rfl
theorem unAt_b {iA iB:Bool} {b:List Span} {x:Int} (h:ZV b iB = some x):unAt iA iB [] b = some x:=by
 unfold unAt
 rw [Z5M (show (([] : List Span).length:Int) = 0 from rfl),cond_true,h]
 rfl
theorem unAt_ab {iA iB:Bool} {s t:Span} {a b:List Span} {x y:Int} (h:ZV (s :: a) iA = some x) (h2:ZV (t :: b) iB = some y) (hxy:x≤y):unAt iA iB (s :: a) (t :: b) = some x:=by
 unfold unAt
 rw [Z3Y (show ¬ (((s :: a).length:Nat):Int) = 0 by simp only [YD];omega),Z3Y (show ¬ (((t :: b).length:Nat):Int) = 0 by simp only [YD];omega),cond_false,cond_false,h,h2]
 simp only [Y0]
 rw [iMin_eq,Int.min_eq_left hxy]
theorem Z6G {iA iB iA' iB' inn:Bool} {out a b a' b':List Span} {f at':Int} (hn:a ≠ []∨b ≠ []) (ha:a.length≤100000000) (hb:b.length≤100000000) (ho:out.length≤100000000)
  (h64 : -4611686018427387904≤at'∧at'≤4611686018427387904) (hat:unAt iA iB a b = some at') (pa:Z0Y a iA at' = some (a',iA')) (pb:Z0Y b iB at' = some (b',iB')) :
  Z6n (unSt iA iB out a b f inn) = some (.inl (bif (iA' || iB') then (bif inn then unSt iA' iB' out a' b' f true else unSt iA' iB' out a' b' at' true) else (bif inn then unSt iA' iB' (out ++ [⟨f,at' - 1⟩]) a' b' f false else unSt iA' iB' out a' b' f false))):=by
 have hr:=Z57
 unfold Z6n unSt Z0F.s0
 simp only
 have hp:0 < a.length + b.length:=by
  rcases hn with h | h <;> (have:=List.length_pos_iff.2 h;omega)
 rw [ZL (x:=(a.length:Int) + (b.length:Int)) (by omega),Zf (show (a.length:Int) + (b.length:Int) > 0 by omega),cond_true]
 unfold unAt at hat
 rw [hat]
 simp only [Y0,pa,pb,Z1Q,if_true]
 unfold Z1L.b0 Z2H
 simp only [Y0]
 cases iA' <;> cases iB' <;> cases inn
 all_goals simp only [Y0k,Bool.or_true,Y0i,Y0B,Ys,Yh,Bool.and_true,Y0b,Y0J,Bool.true_and,cond_true,cond_false,Y0,Y8,beq_self_eq_true,Jx.elim]
 rw [ZL (x:=at' - 1) (by omega),app?_ok (by simp only [Yw];omega)]
 rfl
theorem un_end {iA iB inn:Bool} {out:List Span} {f:Int}:loopO Z6n (unSt iA iB out [] [] f inn) = some (.go ((out,[],[],f,inn),0)):=by
 rw [Z8x]
 rfl
theorem un_go {s s':Bool × Bool × UnS} (h:Z6n s = some (.inl s')):loopO Z6n s = loopO Z6n s':=by
 rw [Z8x,h]
def Z3O (s:Bool × Bool × UnS) (out:List Span):Prop:=∃ f i,loopO Z6n s = some (.go ((out,[],[],f,i),0))
theorem Z3O.step {s s':Bool × Bool × UnS} {out:List Span} (h:Z6n s = some (.inl s')) (h2:Z3O s' out):Z3O s out:=by
 obtain ⟨f,i,e⟩:=h2
 exact ⟨f,i,by rw [un_go h];exact e⟩
theorem norm_tail {s:Span} {l:List Span} (h:Z4u (s :: l)):Z4u l∧s.From≤s.To∧∀ t ∈ l,s.To + 1 < t.From :=
 ⟨⟨(List.pairwise_cons.1 h.1).2,fun x hx => h.2 x (YH _ hx)⟩,h.2 s YE,(List.pairwise_cons.1 h.1).1⟩
theorem un_right:∀ (b out:List Span),b.length + out.length≤100000000→Z4u b→Z0g b→∀ f,Z3O (unSt false false out [] b f false) (out ++ b)∧∀ s,b.head? = some s→Z3O (unSt false true out [] b f true) (out ++ ⟨f,s.To⟩ :: b.tail)
 | [],out,_,_,_,f => ⟨⟨f,false,by rw [YN];exact un_end⟩,fun s h => by cases h⟩
 | s :: b,out,hl,hn,ht,f => by
  obtain ⟨n1,n2,n3⟩:=norm_tail hn
  have hs:=ht s YE
  have htb:Z0g b:=fun x hx => ht x (YH _ hx)
  have hs1:=hs.1
  have hs2:=hs.2
  unfold ZB at hs1 hs2;simp only [YD] at hl;have second:∀ (g:Int),Z3O (unSt false true out [] (s :: b) g true) (out ++ ⟨g,s.To⟩ :: b):=fun g => by
   refine Z3O.step (Z6G (.inr (Yz _ _)) (by simp) (by simp only [YD];omega) (by omega) (at':=s.To + 1) (by omega) (unAt_b (bord_in hs.2)) (Z9P _ _) (Z8z hs.2 (by omega) rfl)) ?_
   simp only [Y0i,cond_false,cond_true];have:=(un_right b (out ++ [⟨g,s.To⟩]) (by simp only [YX,Yw];omega) n1 htb g).1
   rw [Ym,List.singleton_append] at this;rw [show s.To + 1 - 1 = s.To by omega]
   exact this
  refine ⟨?_,fun x hx => ?_⟩
  ·refine Z3O.step (Z6G (.inr (Yz _ _)) (by simp) (by simp only [YD];omega) (by omega) (at':=s.From) (by omega) (unAt_b Z5l) (Z9P _ _) (Z8j rfl)) ?_
   simp only [Bool.or_true,cond_true,cond_false];exact second s.From
  ·cases hx;exact second f
theorem glue_more {s:Span} {a b:List Span} (h:a ≠ []):glue (s :: a) b = s :: glue a b:=by
 obtain ⟨a',x,rfl⟩:=Z6M h
 cases b with
 | nil => rw [Z2T,Z2T]
 | cons t b => rw [← Y09,Z1R,Z1R,Y09]
theorem un_glue (b:List Span) (hb:Z4u b) (tb:Z0g b):∀ (a out:List Span),a.length + b.length + out.length≤100000000→Z4u a→Z0g a→(∀ x ∈ a,∀ y ∈ b,x.To < y.From)→∀ f,Z3O (unSt false false out a b f false) (out ++ glue a b)
 | [],out,hl,_,_,_,f => by
  rw [Z2u];exact (un_right b out (by simp only [Yc] at hl;omega) hb tb f).1
 | s :: a,out,hl,hn,ht,ho,f => by
  obtain ⟨n1,n2,n3⟩:=norm_tail hn
  have hs:=ht s YE
  have hta:Z0g a:=fun x hx => ht x (YH _ hx)
  have hs1:=hs.1
  have hs2:=hs.2
  unfold ZB at hs1 hs2;have hoa:∀ x ∈ a,∀ y ∈ b,x.To < y.From:=fun x hx => ho x (YH _ hx)
  simp only [YD] at hl;have ih:=un_glue b hb tb a (out ++ [s]) (by simp only [YX,Yw];omega) n1 hta hoa
  cases b with
  | nil =>
   refine Z3O.step (Z6G (.inl (Yz _ _)) (by simp only [YD];omega) (by simp) (by omega) (at':=s.From) (by omega) (unAt_a (by simp only [YD];omega) (Yz _ _) Z5l) (Z8j rfl) (Z9P _ _)) ?_
   simp only [Y0k,cond_true,cond_false];refine Z3O.step (Z6G (.inl (Yz _ _)) (by simp only [YD];omega) (by simp) (by omega) (at':=s.To + 1) (by omega) (unAt_a (by simp only [YD];omega) (Yz _ _) (bord_in hs.2)) (Z8z hs.2 (by omega) rfl) (Z9P _ _)) ?_
   simp only [Y0k,cond_true,cond_false];rw [show s.To + 1 - 1 = s.To by omega]
   have:=ih s.From
   rw [Z2T,Ym,List.singleton_append] at this;rw [Z2T];exact this
  | cons t b =>
   have hst:=ho s YE t YE
   have htt:=tb t YE
   have hlb:b.length + 1 + a.length + out.length≤99999999:=by simp only [YD] at hl;omega
   refine Z3O.step (Z6G (.inl (Yz _ _)) (by simp only [YD];omega) (by simp only [YD];omega) (by omega) (at':=s.From) (by omega) (unAt_ab Z5l Z5l (by omega)) (Z8j rfl) (past_not (by omega))) ?_
   simp only [Y0k,cond_true,cond_false]
   by_cases hc:t.From = s.To + 1
   ·have hnil:a = []:=by
     cases a with
     | nil => rfl
     | cons z a =>
      have h1:=n3 z YE
      have h2:=n1.2 z YE
      have h3:=hoa z YE t YE
      omega
    subst hnil;refine Z3O.step (Z6G (.inl (Yz _ _)) (by simp) (by simp only [YD];omega) (by omega) (at':=s.To + 1) (by omega) (unAt_ab (bord_in hs.2) Z5l (by omega)) (Z8z hs.2 (by simp) rfl) (Z8j hc.symm)) ?_
    simp only [Bool.or_true,cond_true,cond_false];have:=(un_right (t :: b) out (by simp only [YD];omega) hb tb s.From).2 t rfl
    have e:glue [s] (t :: b) = ⟨s.From,t.To⟩ :: b:=by
     have:=Z1R [] s t b
     rw [Y0T] at this;rw [this];unfold seam;rw [if_pos hc]
     rfl
    rw [e];exact this
   ·refine Z3O.step (Z6G (.inl (Yz _ _)) (by simp only [YD];omega) (by simp only [YD];omega) (by omega) (at':=s.To + 1) (by omega) (unAt_ab (bord_in hs.2) Z5l (by omega)) (Z8z hs.2 (by omega) rfl) (past_not hc)) ?_
    simp only [Y0i,cond_true,cond_false];rw [show s.To + 1 - 1 = s.To by omega]
    have:=ih s.From
    rw [Ym,List.singleton_append] at this;have e:glue (s :: a) (t :: b) = s :: glue a (t :: b):=by
     by_cases hn:a = []
     ·subst hn;have:=Z1R [] s t b
      rw [Y0T] at this;rw [this,Z2u];unfold seam;rw [if_neg hc]
      rfl
     ·exact glue_more hn
    rw [e];exact this
theorem union_glue {a b:List Span} (hl:a.length + b.length≤100000000) (na:Z4u a) (nb:Z4u b) (ta:Z0g a) (tb:Z0g b) (ho:∀ x ∈ a,∀ y ∈ b,x.To < y.From):Z46 a b = some (glue a b):=by
 obtain ⟨f,i,e⟩:=un_glue b nb tb a [] (by simp only [Yc];omega) na ta ho 0
 rw [Y0T] at e
 unfold Z46 Z1L Z0F
 have e2:loopO (Z0F.s0 (S:=UnS) (fun s => s.1.2.2.1) (fun s v => ((s.1.1,s.1.2.1,v,s.1.2.2.2.1,s.1.2.2.2.2),s.2)) (fun s => s.1.2.1) (fun s v => ((s.1.1,v,s.1.2.2.1,s.1.2.2.2.1,s.1.2.2.2.2),s.2)) (Z1Q (Z1L.b0 (fun z0 z1 => some (Z2H z0 z1))))) (false,false,(([],b,a,0,false),0)) = some (.go ((glue a b,[],[],f,i),0)):=e
 simp only [Y0]
 rw [e2]
 rfl
end Go.Dn

namespace Go.Dn
open Go
theorem union13_eq {f:Form} {B:Nat} (hl:Lim f) (hr:RightF f) (hb:BndB f B) {a:Int} {m:Nat} (hm:m * B≤4000000) (hm2:m≤4000000) (hB:B≤4000000) (ha : -4611686018427387904≤a∧a≤4611686018427387904) :
  (Z05 f a m = some (gl (ZH f) a m,true)∧Z0g (gl (ZH f) a m)∧(gl (ZH f) a m).length≤m * B)∨Z05 f a m = some ([],false):=by
 have hs:=hr.shape
 obtain ⟨r,q1,q2⟩:=Z1F (step:=Z05.s0 f a m)
  (fun s => ∃ k:Nat,k≤m∧s = (gl (ZH f) a k,a + k)∧Z4u (gl (ZH f) a k)∧∀ j:Nat,j < k→ZB (a + j)∧fits f (a + j))
  (fun s => (a + m - s.2).toNat)
  (fun r => (r = .go (gl (ZH f) a m)∧∀ j:Nat,j < m→ZB (a + j)∧fits f (a + j))∨r = .ret ([],false)) (by
   rintro s ⟨k,hk,rfl,hn,hall⟩;unfold Z05.s0;simp only;rw [ZL (x:=a + (m:Int)) (by omega)]
   by_cases hlt:k < m
   ·rw [Zf (show a + (k:Int) < a + m by omega),cond_true,Z3F hl hs (i:=a + (k:Int)) (by unfold In64;omega)]
    by_cases hok:ZB (a + (k:Int))∧fits f (a + (k:Int))
    ·left
     rw [if_pos hok];simp only [Y0,bne_self_eq_false,cond_false];obtain ⟨f1,f2⟩:=Z5i (h:=ZH f) (a:=a) (B:=B) (n:=k) fun j hj => ⟨Z6E hs hb _,(hall j hj).2⟩
     have hkB:k * B≤m * B:=YG _ hk
     have hlk:=Z6E hs hb (a + (k:Int))
     have hrk:=Z56 hs hok.2
     have hnk:=ZB1 hrk
     have hord:∀ x ∈ gl (ZH f) a k,∀ y ∈ ZH f (a + (k:Int)),x.To < y.From:=fun x hx y hy => by
      obtain ⟨j,j1,s,s1,s2⟩:=gl_to hx
      have hj:=hall j j1
      have hrj:=Z56 hs hj.2
      have n1:ZH f (a + (j:Int)) ≠ []:=List.ne_nil_of_mem s1
      have n2:ZH f (a + (k:Int)) ≠ []:=List.ne_nil_of_mem hy
      have:=RightF.order hl hr _ (a + j) (a + k) rfl (by omega) hj.1 hok.1 hj.2 hok.2 n1 n2
      have h1:=Z8G hrj s1
      have h2:=Z8G hrk hy
      omega
     rw [union_glue (by omega) hn hnk f2 hok.2 hord]
     simp only [Y0];rw [ZL (x:=a + (k:Int) + 1) (by omega)]
     refine ⟨_,rfl,⟨k + 1,hlt,by push_cast;rw [← Int.add_assoc];rfl,(glue_norm hn hnk hord).1,fun j hj => ?_⟩,by simp only;omega⟩
     by_cases hjk:j = k
     ·subst hjk;exact hok
     ·exact hall j (by omega)
    ·right
     rw [if_neg hok];exact ⟨_,rfl,.inr rfl⟩
   ·right
    obtain rfl:k = m:=by omega
    rw [Zu (by omega),cond_false]
    exact ⟨_,rfl,.inl ⟨rfl,hall⟩⟩) ([],a) ⟨0,Yb _,by simp [gl],normL_nil,fun j hj => absurd hj (Nat.not_lt_zero _)⟩
 unfold Z05
 rw [q1]
 rcases q2 with ⟨rfl,h1⟩ | rfl
 ·obtain ⟨f1,f2⟩:=Z5i (h:=ZH f) (a:=a) (B:=B) (n:=m) fun j hj => ⟨Z6E hs hb _,(h1 j hj).2⟩
  exact .inl ⟨rfl,f2,f1⟩
 ·exact .inr rfl
theorem Z8q (f:Form) (m at':Int) (hf:f.ok) (hm:okI .u8 m) (ha:okI .i32 at'):ZY f m at' = some true:=by
 have hl:=Form.lim hf
 have hm':0≤m∧m≤255:=hm
 have ha' : -2147483648≤at'∧at'≤2147483647:=ha
 unfold ZY
 obtain ⟨b,e1,i1⟩:=right13_eq hl
 rw [e1]
 simp only [Y0]
 cases b with
 | false => rfl
 | true =>
 obtain ⟨sf,rf⟩:=i1.1 rfl
 have hb:=sf.b60
 have hs:=rf.shape
 simp only [Ys,cond_false]
 obtain ⟨K,hK,k1,k2⟩ : ∃ K:Nat,w64 (1 + ((w64 m).tmod 100)) = K∧1≤K∧K≤100:=by
  refine ⟨(1 + m % 100).toNat,?_,by omega,by omega⟩
  rw [ZL (x:=m) (by omega),Int.tmod_eq_emod_of_nonneg hm'.1,ZL (by omega)]
  omega
 obtain ⟨i0,hi,i0a,i0b⟩ : ∃ i0:Int,(w64 at').fdiv (2 ^ 7) = i0∧-16777216≤i0∧i0≤16777216:=by
  refine ⟨_,rfl,?_⟩;rw [ZL (by omega),Y0K _ (by decide)]
  omega
 obtain ⟨g,e,h1,h2,h3⟩:=group_eq2 hl hs hb (m:=K) k1 (by omega) (by omega)
 rw [hK,h1]
 simp only [Y0]
 by_cases he:e = 0
 ·subst he;obtain ⟨F,hG,lF,rF,nF,hc⟩:=h2 rfl
  simp only [bne_self_eq_false,cond_false];obtain ⟨g2,fg,lg,rg,setg,fixg,_,_,c3,c4,c5⟩:=canon_facts lF rF
  rw [hc] at fg;cases fg;have ng:¬ Z6Z g:=by
   unfold Z6Z at nF ⊢;omega
  have hKB:K * 60≤6000:=by omega
  have rightg:Zn g = some 0:=by
   rcases Z5Y lg with ⟨h,_⟩ | ⟨_,_,h4⟩ | ⟨_,h,_⟩
   ·exact absurd h ng
   ·exact h4
   ·exact absurd rg h
  have isg:Z4E g = some true:=by
   unfold Z4E;rw [fixg];obtain ⟨r,r1,r2⟩:=ZBI (a:=g) (b:=g) lg
   have:r = true:=r2.2 rfl
   subst this;simp only [Y0,r1]
  have loop:loopO (ZY.s0 f m at' (g,0)) 0 = some (.go ()):=by
   obtain ⟨r,q1,q2⟩:=Z1F (step:=ZY.s0 f m at' (g,0)) (fun s => ∃ k:Nat,s = (k:Int)∧k≤4) (fun s => 4 - s.toNat) (fun r => r = .go ()) (by
    rintro s ⟨k,rfl,hk⟩;unfold ZY.s0;rw [hK,hi];have hlen:([i0,0,-1,i0.tmod 8] : List Int).length = 4:=rfl
    by_cases hlt:k < ([i0,0,-1,i0.tmod 8] : List Int).length
    ·left
     rw [Zf (show (k:Int) < (([i0,0,-1,i0.tmod 8] : List Int).length:Int) by omega),cond_true,at?_nat hlt]
     simp only [Y0];have hmem:=YZ hlt
     have hx : -16777216≤([i0,0,-1,i0.tmod 8] : List Int)[k]∧([i0,0,-1,i0.tmod 8] : List Int)[k]≤16777216:=by
      have t8 : -8≤i0.tmod 8∧i0.tmod 8≤8:=by
       have h1:=Int.lt_tmod_of_pos i0 (show (0:Int) < 8 by decide)
       have h2:=Int.tmod_lt_of_pos i0 (show (0:Int) < 8 by decide)
       omega
      simp only [List.mem_cons,List.not_mem_nil,or_false] at hmem;omega
     generalize ([i0,0,-1,i0.tmod 8] : List Int)[k] = x at *
     have xk1:x * (K:Int)≤16777216 * 100:=by
      have h1:x * (K:Int)≤16777216 * K:=Yt hx.2 (by omega)
      omega
     have xk2 : -(16777216 * 100)≤x * (K:Int):=by
      have h1 : -16777216 * (K:Int)≤x * K:=Yt hx.1 (by omega)
      omega
     rw [ZL (x:=x * (K:Int)) (by omega),ZL (x:=(k:Int) + 1) (by omega)]
     have next:∃ s':Int,(some (.inl ((k:Int) + 1)):Option (Int ⊕ Jx Unit Bool)) = some (.inl s')∧(∃ k':Nat,s' = (k':Int)∧k'≤4)∧4 - s'.toNat < 4 - ((k:Int)).toNat:=⟨_,rfl,⟨k + 1,by push_cast;rfl,by omega⟩,by omega⟩
     rcases union13_eq hl rf hb (a:=x * K) (m:=K) (by omega) (by omega) (by omega) (by omega) with ⟨u1,u2,u3⟩ | u1
     ·rw [u1];simp only [Y0,cond_true];have hset:ZH g x = gl (ZH f) (x * K) K:=by rw [setg,hG.set]
      have hfit:fits g x:=by unfold fits;rw [hset];exact u2
      unfold Z2o;rw [Z3F lg rg.shape (i:=x) (by unfold In64;omega),if_pos ⟨by unfold ZB;omega,hfit⟩]
      obtain ⟨r,r1,r2⟩:=Z3y (a:=ZH g x) (b:=gl (ZH f) (x * K) K) (Z7H lg rg.shape x)
      have:r = true:=r2.2 hset
      subst this;simp only [Y0,beq_self_eq_true,cond_true,r1,rightg,isg,Ys,cond_false];exact next
     ·rw [u1];simp only [Y0,cond_false];exact next
    ·right
     rw [Zu (show ¬ (k:Int) < (([i0,0,-1,i0.tmod 8] : List Int).length:Int) by omega),cond_false]
     exact ⟨_,rfl,rfl⟩) 0 ⟨0,rfl,by omega⟩
   rw [q1,q2]
  rw [loop]
  rfl
 ·obtain ⟨p1,rfl⟩:=h3 he
  have:(e != 0) = true:=by simpa using he
  rw [this,cond_true];have:((e == 20) || (e == 3)) = true:=by
   rcases p1 with rfl | rfl <;> rfl
  rw [this,cond_true];have l0:Lim (Form.mk 0 0 [] []):=lim_none
  obtain ⟨r,r1,r2⟩:=alikeForms_eq (a:=Form.mk 0 0 [] []) (b:=Form.mk 0 0 [] []) l0
  rw [r1,r2.2 rfl]
  rfl
end Go.Dn
