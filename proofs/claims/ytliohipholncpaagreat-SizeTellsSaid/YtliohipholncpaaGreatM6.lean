/- Part 6 of what the row stands on. -/
import Derived.Test.YtliohipholncpaaGreatM5
set_option linter.unusedVariables false
set_option linter.unusedSimpArgs false
namespace Go.Dn
open Go
def AtZ (A:Option (size_place × Bool × Int)) (l:List Span):Prop :=
 ∃ p b,A = some (p,b,0)∧(b = true ↔ l ≠ [])∧(l ≠ []→p = ⟨fstT l,lstT l⟩∧(-1152921504606846976≤p.first∧p.first≤1152921504606846976)∧(-1152921504606846976≤p.last∧p.last≤1152921504606846976))
theorem plain_ok {g:Form} {sp:List size_spot} (hl:Lim g) (hs:Shape g) (h12:g.Count≤12) {i:Int} (hi : -100000≤i∧i≤100000):AtZ (Zx ⟨g,sp⟩ i) (csz g i):=by
 unfold Zx
 have hcnt:=hs.count
 have hper:=hs.per
 by_cases h0:g.Count = 0
 ·simp only;rw [Z84 h0,cond_true];refine ⟨_,_,rfl,?_⟩;unfold csz;rw [if_pos h0]
  simp
 ·have hp:0 < g.Count:=by omega
  simp only;rw [Z4i h0,cond_false,Z2D (by unfold In64;omega) hl.count,Z3k hp]
  simp only [Y0];obtain ⟨c1,c2⟩:=Z0t hs h0 i
  rw [c1];simp only [Y0];rw [Z5m (hl.sets _ c2).1];simp only [Y0];have hcsz:csz g i = (Z0e g i).map (ZR (i / g.Count * g.Period)):=by rw [Z37 hp];rfl
  by_cases hn:Z0e g i = []
  ·rw [if_pos hn];simp only [Yz,cond_true];refine ⟨_,_,rfl,?_⟩;rw [hcsz,hn]
   simp
  ·rw [if_neg hn];simp only [YH,cond_false];have hr:RightL (Z0e g i):=hs.core _ c2
   have ht:=Z2u hr hn
   unfold ZF at ht;have q1:i / g.Count≤100000:=Y0c hp (by
    have:(100000:Int) * 1≤100000 * g.Count:=YD (by omega) (by decide)
    omega)
   have q2 : -100000≤i / g.Count:=Y0H hp (by
    have:(100000:Int) * 1≤100000 * g.Count:=YD (by omega) (by decide)
    omega)
   have m1:i / g.Count * g.Period≤100000 * g.Period:=YE q1 hper.1
   have m2 : -100000 * g.Period≤i / g.Count * g.Period:=YE q2 hper.1
   rw [Z7v (by unfold In64;omega) hl.period]
   have hne:(Z0e g i).map (ZR (i / g.Count * g.Period)) ≠ []:=by simpa using hn
   obtain ⟨l1,l2⟩:=ZZ (i / g.Count * g.Period) hn
   rw [Z9c (a:=i / g.Count * g.Period) (by unfold In64;omega)]
   simp only;rw [Z3n (by unfold In64;omega) (by unfold In64;omega),Z3n (by unfold In64;omega) (by unfold In64;omega),Z9c (by unfold In64;omega),Z9c (by unfold In64;omega)]
   refine ⟨_,_,rfl,?_⟩;rw [hcsz,l1,l2];refine ⟨⟨fun _ => hne,fun _ => rfl⟩,fun _ => ⟨rfl,?_,?_⟩⟩ <;> simp only <;> omega
theorem at_ok {g:Form} {sp:List size_spot} (hl:Lim g) (hs:Shape g) (h12:g.Count≤12) {i:Int} (hi : -100000≤i∧i≤100000):AtZ (Z01 ⟨g,sp⟩ i) (Z1 g i):=by
 obtain ⟨p,b,e,q1,q2⟩:=at_at (sp:=sp) hl hs (i:=i) (by unfold In64;omega)
 by_cases ho:ZT g i
 ·obtain ⟨x,hx,rfl⟩:=ho
  have hset:=Z0J hs.inc hx
  obtain ⟨n,n1,n2⟩:=Z5r (sp:=sp) hl hs x.Index
  have e0:e = 0:=by
   unfold Z01 at q1;rw [n1] at q1;simp only [Y0] at q1;rw [ZK (n2.2 ⟨x,hx,rfl⟩),cond_true] at q1;cases h1:at? g.Odd n with
   | none => rw [h1] at q1;cases q1
   | some y =>
    rw [h1] at q1;simp only [Y0] at q1;cases h2:Z09 y.Ticks with
    | none => rw [h2] at q1;cases q1
    | some z => rw [h2] at q1;simp only [Y0,Y5,Y3] at q1;exact q1.2.2.symm
  subst e0;obtain ⟨a1,a2⟩:=q2 rfl
  refine ⟨p,b,q1,a1,fun hn => ⟨(a2 hn).1,?_⟩⟩
  rw [(a2 hn).1];rw [hset] at hn ⊢;have ht:=Z2u (hs.odd x hx).1 hn
  unfold ZF at ht;simp only;omega
 ·obtain ⟨n,n1,n2⟩:=Z5r (sp:=sp) hl hs i
  unfold Z01
  rw [n1];simp only [Y0];rw [ZJ (fun h => ho (n2.1 h)),cond_false,Z2k ho]
  obtain ⟨p',b',h1,h2⟩:=plain_ok (sp:=sp) hl hs h12 hi
  rw [h1];exact ⟨p',b',rfl,h2⟩
structure TellsZ (tell:size_place→size_place→Option (Int × Int)) (tv:List Span→List Span→Int):Prop where
 tells:Tells tell tv
 ok:∀ l m,(-1152921504606846976≤fstT l∧fstT l≤1152921504606846976)→(-1152921504606846976≤lstT l∧lstT l≤1152921504606846976)→(-1152921504606846976≤fstT m∧fstT m≤1152921504606846976)→(-1152921504606846976≤lstT m∧lstT m≤1152921504606846976)→In64 (tv l m)
theorem look_ok {A B:Option (size_place × Bool × Int)} {l m:List Span} {tell:size_place→size_place→Option (Int × Int)} {tv:List Span→List Span→Int} {c:Int × Bool} (ht:TellsZ tell tv) (hA:AtZ A l) (hB:AtZ B m) :
  ∃ c',lookO A B tell c = some (0,c'):=by
 obtain ⟨p,b,rfl,i1,i2⟩:=hA
 obtain ⟨p',b',rfl,j1,j2⟩:=hB
 unfold lookO
 simp only [Y0]
 cases b with
 | false => exact ⟨c,rfl⟩
 | true =>
  obtain ⟨rfl,a1,a2⟩:=i2 (i1.1 rfl)
  cases b' with
  | false => exact ⟨c,rfl⟩
  | true =>
   obtain ⟨rfl,b1,b2⟩:=j2 (j1.1 rfl)
   simp only at a1 a2 b1 b2;simp only [bne_self_eq_false,YH,Y12,cond_false];rw [ht.tells.eq l m (by unfold In64;omega) (by unfold In64;omega) (by unfold In64;omega) (by unfold In64;omega),Z9c (ht.ok l m a1 a2 b1 b2)]
   simp only [Y0,beq_self_eq_true,cond_true];exact ⟨_,rfl⟩
theorem over_core_ok {g:Form} {sp:List size_spot} (h:Fit g) {k:Int} (hk:ZF k) (hk1 : -100≤k∧k≤100) (hod:∀ x ∈ g.Odd,-1000≤x.Index∧x.Index≤1000) {tell:size_place→size_place→Option (Int × Int)} {tv:List Span→List Span→Int} (ht:TellsZ tell tv) :
  ∃ c,loopO (Z7.s0 ⟨g,sp⟩ k tell) (0,0,false) = some (.go c)∧Best (fun n => ∃ i,0≤i∧i < g.Count∧csz g i ≠ []∧csz g (i + k) ≠ []∧n = tv (csz g i) (csz g (i + k))) c∧In64 c.1:=by
 have hs:=h.shape
 have hl:=h.lim
 have hcnt:=hs.count
 have hfew:=h.few
 have hcnt12:g.Count≤12:=by omega
 unfold ZF at hk
 obtain ⟨r,q1,q2⟩:=Zv (step:=Z7.s0 ⟨g,sp⟩ k tell)
  (fun s => ∃ (j:Nat) (c:Int × Bool),(j:Int)≤g.Count∧s = ((j:Int),c.1,c.2)∧Best (fun n => ∃ i,0≤i∧i < (j:Int)∧csz g i ≠ []∧csz g (i + k) ≠ []∧n = tv (csz g i) (csz g (i + k))) c∧In64 c.1)
  (fun s => (g.Count - s.1).toNat)
  (fun r => ∃ c,r = .go c∧Best (fun n => ∃ i,0≤i∧i < g.Count∧csz g i ≠ []∧csz g (i + k) ≠ []∧n = tv (csz g i) (csz g (i + k))) c∧In64 c.1) (by
   rintro s ⟨j,c,hj,rfl,hc,hci⟩;rw [over_s0_eq];simp only
   by_cases hlt:(j:Int) < g.Count
   ·rw [ZK hlt,cond_true];rw [Z9 (x:=(j:Int) + k) (by omega)]
    obtain ⟨e,c',l1,l2⟩:=ZAw ht.tells (plain_at (sp:=sp) hl hs (i:=(j:Int)) (by unfold In64;omega)) (plain_at (sp:=sp) hl hs (i:=(j:Int) + k) (by unfold In64;omega)) hc hci
    rw [l1];simp only [Y0]
    by_cases he:e = 0
    ·left
     obtain ⟨b1,b2⟩:=l2 he
     subst he;simp only [bne_self_eq_false,cond_false];rw [Z9 (by omega)]
     refine ⟨_,rfl,⟨j + 1,c',by push_cast;omega,by push_cast;rfl,b1.congr fun n => ?_,b2⟩,by simp only;omega⟩
     constructor
     ·rintro ⟨i,i0,i1,hh⟩
      by_cases hij:i = j
      ·subst hij;exact .inr hh
      ·exact .inl ⟨i,i0,by push_cast at i1;omega,hh⟩
     ·rintro (⟨i,i0,i1,hh⟩ | hh)
      ·exact ⟨i,i0,by push_cast;omega,hh⟩
      ·exact ⟨j,by omega,by push_cast;omega,hh⟩
    ·exfalso
     obtain ⟨c3,hz⟩:=look_ok (c:=c) ht (plain_ok (sp:=sp) hl hs hcnt12 (i:=(j:Int)) (by omega)) (plain_ok (sp:=sp) hl hs hcnt12 (i:=(j:Int) + k) (by omega))
     rw [l1] at hz;exact he (by cases hz;rfl)
   ·right
    rw [ZJ hlt,cond_false];have:(j:Int) = g.Count:=by omega
    rw [this] at hc;exact ⟨_,rfl,c,rfl,hc,hci⟩) (0,0,false) ⟨0,(0,false),by simp;omega,rfl,Best.none (by rintro n ⟨i,i0,i1,_⟩;simp at i1;omega),by unfold In64;simp⟩
 obtain ⟨c,rfl,hh⟩:=q2
 exact ⟨c,q1,hh⟩
theorem over_odds_ok {g:Form} {sp:List size_spot} (h:Fit g) {k:Int} (hk:ZF k) (hk1 : -100≤k∧k≤100) (hod:∀ x ∈ g.Odd,-1000≤x.Index∧x.Index≤1000) {tell:size_place→size_place→Option (Int × Int)} {tv:List Span→List Span→Int} (ht:TellsZ tell tv) {b:Int × Bool} {S:Int→Prop} (hb:Best S b) (hbi:In64 b.1) :
  ∃ c,loopO (Z7.s2 ⟨g,sp⟩ k tell) (0,b.1,b.2) = some (.go c)∧Best (fun n => S n∨∃ i,(ZT g i∨ZT g (i + k))∧Z1 g i ≠ []∧Z1 g (i + k) ≠ []∧n = tv (Z1 g i) (Z1 g (i + k))) c∧In64 c.1:=by
 have hs:=h.shape
 have hl:=h.lim
 have hodd:=h.odds
 have hcnt12:g.Count≤12:=by have:=h.few;have:=hs.count;omega
 unfold ZF at hk
 obtain ⟨r,q1,q2⟩:=Zv (step:=Z7.s2 ⟨g,sp⟩ k tell)
  (fun s => ∃ (j:Nat) (c:Int × Bool),j≤g.Odd.length∧s = ((j:Int),c.1,c.2)∧Best (fun n => S n∨∃ x ∈ g.Odd.take j,∃ i,(x.Index = i∨x.Index = i + k)∧Z1 g i ≠ []∧Z1 g (i + k) ≠ []∧n = tv (Z1 g i) (Z1 g (i + k))) c∧In64 c.1)
  (fun s => g.Odd.length - s.1.toNat)
  (fun r => ∃ c,r = .go c∧Best (fun n => S n∨∃ i,(ZT g i∨ZT g (i + k))∧Z1 g i ≠ []∧Z1 g (i + k) ≠ []∧n = tv (Z1 g i) (Z1 g (i + k))) c∧In64 c.1) (by
   rintro s ⟨j,c,hj,rfl,hc,hci⟩;rw [over_s2_eq];simp only
   by_cases hlt:j < g.Odd.length
   ·have hm:=YF hlt
    have htk:g.Odd.take (j + 1) = g.Odd.take j ++ [g.Odd[j]]:=(Yf hlt).symm
    have hset:Z1 g g.Odd[j].Index = g.Odd[j].Ticks:=Z0J hs.inc hm
    have hti:=(hs.odd _ hm).2
    have hbd:=hod _ hm
    unfold ZF at hti;rw [ZK (show (j:Int) < g.Odd.length by omega),cond_true,at?_nat hlt]
    simp only [Y0];have hw:w64 ((j:Int) + 1) = ((j + 1:Nat):Int):=by rw [Z9 (by omega)];push_cast;rfl
    by_cases hne:g.Odd[j].Ticks = []
    ·left
     rw [hne];simp only [Yd,Int.natCast_zero,beq_self_eq_true,cond_true,Y0,Jx.elim];rw [hw];refine ⟨_,rfl,⟨j + 1,c,hlt,rfl,hc.congr fun n => ?_,hci⟩,by simp only;omega⟩
     rw [htk]
     constructor
     ·rintro (h1 | ⟨x,hx,i,h1,h2,h3,h4⟩)
      ·exact .inl h1
      ·rcases List.mem_append.1 hx with h5 | h5
       ·exact .inr ⟨x,h5,i,h1,h2,h3,h4⟩
       ·rw [YK] at h5;subst h5
        rcases h1 with rfl | h1
        ·exact absurd (hset.trans hne) h2
        ·rw [← h1] at h3;exact absurd (hset.trans hne) h3
     ·rintro (h1 | ⟨x,hx,h1⟩)
      ·exact .inl h1
      ·exact .inr ⟨x,YX _ hx,h1⟩
    ·have hlen:¬ ((g.Odd[j].Ticks.length:Int) = 0):=by have:=List.length_pos_iff.2 hne;omega
     rw [Z4i hlen,cond_false,Z9 (x:=g.Odd[j].Index + k) (by omega),Z9 (x:=g.Odd[j].Index - k) (by omega),Z9 (x:=g.Odd[j].Index - k + k) (by omega)]
     obtain ⟨e,c1,l1,l2⟩:=ZAw ht.tells (at_at (sp:=sp) hl hs (i:=g.Odd[j].Index) (by unfold In64;omega)) (at_at (sp:=sp) hl hs (i:=g.Odd[j].Index + k) (by unfold In64;omega)) hc hci
     rw [l1];simp only [Y0]
     by_cases he:e = 0
     ·obtain ⟨b1,b2⟩:=l2 he
      subst he;simp only [bne_self_eq_false,cond_false];obtain ⟨e',c2,m1,m2⟩:=ZAw ht.tells (at_at (sp:=sp) hl hs (i:=g.Odd[j].Index - k) (by unfold In64;omega)) (at_at (sp:=sp) hl hs (i:=g.Odd[j].Index - k + k) (by unfold In64;omega)) b1 b2
      rw [m1];simp only [Y0]
      by_cases he':e' = 0
      ·left
       obtain ⟨d1,d2⟩:=m2 he'
       subst he';simp only [bne_self_eq_false,cond_false,Y0,Jx.elim];rw [hw];refine ⟨_,rfl,⟨j + 1,c2,hlt,rfl,d1.congr fun n => ?_,d2⟩,by simp only;omega⟩
       rw [htk]
       constructor
       ·rintro (h1 | ⟨x,hx,i,h1,h2,h3,h4⟩)
        ·exact .inl (.inl (.inl h1))
        ·rcases List.mem_append.1 hx with h5 | h5
         ·exact .inl (.inl (.inr ⟨x,h5,i,h1,h2,h3,h4⟩))
         ·rw [YK] at h5;subst h5
          rcases h1 with rfl | h1
          ·exact .inl (.inr ⟨h2,h3,h4⟩)
          ·have hi:i = g.Odd[j].Index - k:=by omega
           subst hi;exact .inr ⟨h2,h3,h4⟩
       ·rintro (((h1 | ⟨x,hx,h1⟩) | h1) | h1)
        ·exact .inl h1
        ·exact .inr ⟨x,YX _ hx,h1⟩
        ·exact .inr ⟨_,YS _ (List.mem_singleton.2 rfl),_,.inl rfl,h1⟩
        ·exact .inr ⟨_,YS _ (List.mem_singleton.2 rfl),_,.inr (by omega),h1⟩
      ·exfalso
       obtain ⟨c3,hz⟩:=look_ok (c:=c1) ht (at_ok (sp:=sp) hl hs hcnt12 (i:=g.Odd[j].Index - k) (by omega)) (at_ok (sp:=sp) hl hs hcnt12 (i:=g.Odd[j].Index - k + k) (by omega))
       rw [m1] at hz;exact he' (by cases hz;rfl)
     ·exfalso
      obtain ⟨c3,hz⟩:=look_ok (c:=c) ht (at_ok (sp:=sp) hl hs hcnt12 (i:=g.Odd[j].Index) (by omega)) (at_ok (sp:=sp) hl hs hcnt12 (i:=g.Odd[j].Index + k) (by omega))
      rw [l1] at hz;exact he (by cases hz;rfl)
   ·right
    obtain rfl:j = g.Odd.length:=by omega
    rw [ZJ (by omega),cond_false]
    rw [YO] at hc;refine ⟨_,rfl,c,rfl,hc.congr fun n => ?_,hci⟩
    constructor
    ·rintro (h1 | ⟨i,h1,h2⟩)
     ·exact .inl h1
     ·rcases h1 with ⟨x,hx,hxi⟩ | ⟨x,hx,hxi⟩
      ·exact .inr ⟨x,hx,i,.inl hxi,h2⟩
      ·exact .inr ⟨x,hx,i,.inr hxi,h2⟩
    ·rintro (h1 | ⟨x,hx,i,h1,h2⟩)
     ·exact .inl h1
     ·rcases h1 with h1 | h1
      ·exact .inr ⟨i,.inl ⟨x,hx,h1⟩,h2⟩
      ·exact .inr ⟨i,.inr ⟨x,hx,h1⟩,h2⟩) (0,b.1,b.2) ⟨0,b,YN _,rfl,hb.congr fun n => by simp,hbi⟩
 obtain ⟨c,rfl,hh⟩:=q2
 exact ⟨c,q1,hh⟩
theorem over_ok {g:Form} {sp:List size_spot} (h:Fit g) {k:Int} (hk:ZF k) (hk1 : -100≤k∧k≤100) (hod:∀ x ∈ g.Odd,-1000≤x.Index∧x.Index≤1000) {tell:size_place→size_place→Option (Int × Int)} {tv:List Span→List Span→Int} (ht:TellsZ tell tv) :
  ∃ n b,Z7 ⟨g,sp⟩ k tell = some (n,b,0)∧Best (TwoP g tv k) (n,b)∧In64 n:=by
 unfold Z7
 obtain ⟨c,h1,h2,h3⟩:=over_core_ok (sp:=sp) h hk hk1 hod ht
 rw [h1]
 simp only [Y0,Jx.elim]
 obtain ⟨d,h4,h5,h6⟩:=over_odds_ok (sp:=sp) h hk hk1 hod ht h2 h3
 rw [h4]
 exact ⟨d.1,d.2,rfl,h5.congr fun n => over_free h ht.tells.shift,h6⟩
theorem tellsZ_L:TellsZ (fun z0 z1 => some (Z2b z0 z1)) tvL:=⟨tells_L,fun l m a b c d => by unfold tvL In64;omega⟩
theorem tellsZ_M:TellsZ (fun z0 z1 => some (Z2p z0 z1)) tvM:=⟨tells_M,fun l m a b c d => by unfold tvM In64;omega⟩
theorem Z9l {f:Form} (hl:Lim f) (hr:RightF f) (hsm:FewF f):∃ g,Zi f = some g∧Fit g∧Z1 g = Z1 f∧∀ x ∈ g.Odd,x ∈ f.Odd:=by
 have hs:=hr.shape
 obtain ⟨c,hc,hf⟩:=Z8c hl hs
 have hs':=Z52 hs hc
 have hr':=Z9v hr hc
 have hcl:=coreOf_le hs hc
 exact ⟨_,hf,⟨ZCU hl hs hc,hs',hr'.turns,Ya hcl.2.2.1 hsm.1,Ya (Y0G _ _) hsm.2⟩,Z7G hs hc,fun x hx => (List.mem_filter.1 hx).1⟩
theorem least_ok {f:Form} (h:CloseF f) {k:Int} (hk : -100≤k∧k≤100):∃ n b,Z1b f k = some (w64 (0 - n),b,0)∧Best (TwoP f tvL k) (n,b)∧In64 n:=by
 have hk':ZF k:=by unfold ZF;omega
 obtain ⟨g,g1,g2,g4,g5⟩:=Z9l h.near.lim h.near.right h.near.small.few
 unfold Z1b
 rw [ZBK hk',YH,cond_false,made_eq g1 g2.lim g2.few]
 simp only [Y0]
 obtain ⟨n,b,e,h1,h2⟩:=over_ok (sp:=Z1W g) g2 hk' hk (fun x hx => by have:=h.odd x (g5 x hx);omega) tellsZ_L
 rw [e]
 exact ⟨n,b,rfl,h1.congr fun m => (two_congr g4).symm,h2⟩
theorem most_ok {f:Form} (h:CloseF f) {k:Int} (hk : -100≤k∧k≤100):∃ n b,Z2j f k = some (n,b,0)∧Best (TwoP f tvM k) (n,b)∧In64 n:=by
 have hk':ZF k:=by unfold ZF;omega
 obtain ⟨g,g1,g2,g4,g5⟩:=Z9l h.near.lim h.near.right h.near.small.few
 unfold Z2j
 rw [ZBK hk',YH,cond_false,made_eq g1 g2.lim g2.few]
 simp only [Y0]
 obtain ⟨n,b,e,h1,h2⟩:=over_ok (sp:=Z1W g) g2 hk' hk (fun x hx => by have:=h.odd x (g5 x hx);omega) tellsZ_M
 rw [e]
 exact ⟨n,b,rfl,h1.congr fun m => (two_congr g4).symm,h2⟩
end Go.Dn

namespace Go.Dn
open Go
structure CoreG (f:Form) (z:Int):Prop where
 no:¬ ZT f z
 ne:Z1 f z ≠ []
theorem CoreG.pos {f:Form} (h:CloseF f) {z:Int} (g:CoreG f z):0 < f.Count∧0 < f.Period∧f.Period≤24:=by
 obtain ⟨h0,_,_⟩:=h.near.Z3F g.no g.ne
 exact ⟨h0,per_pos h h0,h.per⟩
theorem CoreG.turn {f:Form} (h:CloseF f) {z:Int} (g:CoreG f z) {q:Int} (ho:¬ ZT f (z + f.Count * q)):CoreG f (z + f.Count * q)∧fstT (Z1 f (z + f.Count * q)) = fstT (Z1 f z) + q * f.Period∧lstT (Z1 f (z + f.Count * q)) = lstT (Z1 f z) + q * f.Period:=by
 obtain ⟨h0,_,hn⟩:=h.near.Z3F g.no g.ne
 obtain ⟨a,b,c⟩:=h.near.turned h0 hn ho
 rw [← Z0L h0 g.no] at b c
 exact ⟨⟨ho,a⟩,b,c⟩
theorem CoreG.width {f:Form} (h:CloseF f) {z:Int} (g:CoreG f z):fstT (Z1 f z)≤lstT (Z1 f z)∧lstT (Z1 f z)≤fstT (Z1 f z) + 60:=by
 obtain ⟨h0,_,hn⟩:=h.near.Z3F g.no g.ne
 obtain ⟨j,q,j0,j1,ez,e⟩:=Z1F h0 z
 rw [Z0L h0 g.no,e]
 rw [e] at hn
 have hnj:cs f j ≠ []:=by simpa using hn
 rw [(ZZ _ hnj).1,(ZZ _ hnj).2]
 obtain ⟨⟨b1,b2,b3⟩,_⟩:=Z6X h h0 j0 j1 hnj
 omega
theorem hasT_fst {l:List Span} (hr:RightL l) (hn:l ≠ []):hasT l (fstT l)∧hasT l (lstT l):=by
 obtain ⟨u,v,_,e2,e3,e4⟩:=ends_of hn
 rename_i e1
 have hu:=(at?_some e1).2
 have hv:=(at?_some e3).2
 have h1:=hr.ok _ u hu
 have h2:=hr.ok _ v hv
 exact ⟨⟨v,Y7 hv,by omega,by omega⟩,⟨u,Y7 hu,by omega,by omega⟩⟩
theorem CoreG.right {f:Form} (h:CloseF f) {z:Int} (g:CoreG f z) (hz : -20000≤z∧z≤20000):RightL (Z1 f z):=Z4d h.near.right.shape (h.fits hz)
theorem odd_right {f:Form} (h:CloseF f) {z:Int} (ho:ZT f z):RightL (Z1 f z):=by
 obtain ⟨g,hg,rfl⟩:=ho
 rw [Z0J h.near.right.shape.inc hg]
 exact (h.near.right.shape.odd g hg).1
theorem Z2P {f:Form} (h:CloseF f) {z:Int} (ho:ZT f z) (hn:Z1 f z ≠ []):Z0s f z∧-300≤fstT (Z1 f z)∧fstT (Z1 f z)≤lstT (Z1 f z)∧lstT (Z1 f z)≤300:=by
 have hr:=odd_right h ho
 have hle:=Z13 hr hn
 have ht:=hasT_fst hr hn
 have hb : -300≤fstT (Z1 f z)∧lstT (Z1 f z)≤300:=by
  obtain ⟨g,hg,rfl⟩:=ho
  rw [Z0J h.near.right.shape.inc hg] at hn ⊢;exact h.ticks g hg hn
 exact ⟨⟨_,ht.1,by omega,by omega⟩,hb.1,hle,hb.2⟩
theorem CoreG.right' {f:Form} (h:CloseF f) {z:Int} (g:CoreG f z) (hz : -1000000≤fstT (Z1 f z)∧fstT (Z1 f z)≤1000000):RightL (Z1 f z):=by
 apply Z4d h.near.right.shape
 obtain ⟨h0,_,hn⟩:=h.near.Z3F g.no g.ne
 obtain ⟨j,q,j0,j1,ez,e⟩:=Z1F h0 z
 intro s hs
 have hcs:=Z0L h0 g.no
 rw [hcs,e] at hz hs
 rw [e] at hn
 have hnj:cs f j ≠ []:=by simpa using hn
 rw [(ZZ _ hnj).2] at hz
 obtain ⟨s0,hs0,rfl⟩:=List.mem_map.1 hs
 have hw:=Z4f (Z1s h.near.right.shape h0 j0 j1) s0 hs0
 obtain ⟨⟨b1,b2,b3⟩,_⟩:=Z6X h h0 j0 j1 hnj
 simp only [ZR]
 unfold ZF
 omega
theorem CoreG.near {f:Form} (h:CloseF f) {z:Int} (g:CoreG f z) (hz:(-1200≤fstT (Z1 f z)∧fstT (Z1 f z)≤1200)):Z0s f z :=
 ⟨_,(hasT_fst (g.right' h (by omega)) g.ne).1,hz.1,hz.2⟩
theorem Z8G {f:Form} (h:CloseF f) {z:Int} (h0:0 < f.Count) (s:Int) (hs:s = 1∨s = -1) (b:Int):∃ t:Nat,t≤8∧¬ ZT f (z + f.Count * (b + s * t)):=by
 obtain ⟨t,ht,hn⟩:=pigeon (f.Odd.map (·.Index)) (fun t => z + f.Count * (b + s * t)) (fun x y hxy => by
  have h4:f.Count * (b + s * (x:Int)) = f.Count * (b + s * y):=by omega
  have:=Y0C (by omega) h4
  rcases hs with rfl | rfl <;> omega)
 have h8:=h.near.small.2.1
 rw [YZ] at ht
 refine ⟨t,by omega,?_⟩
 rintro ⟨x,hx,e⟩
 exact hn (List.mem_map.2 ⟨x,hx,e⟩)
theorem raise {f:Form} (h:CloseF f) {z B:Int} (g:CoreG f z) (hB:fstT (Z1 f z)≤B):∃ z',z≤z'∧CoreG f z'∧fstT (Z1 f z')≤B∧B - 240 < fstT (Z1 f z'):=by
 obtain ⟨h0,hP,h24⟩:=g.pos h
 have e1:=Yj (B - fstT (Z1 f z)) f.Period
 have e2:=Ye (B - fstT (Z1 f z)) (show f.Period ≠ 0 by omega)
 have e3:=Yl (B - fstT (Z1 f z)) hP
 have hT0:0≤(B - fstT (Z1 f z)) / f.Period:=Int.ediv_nonneg (by omega) (by omega)
 generalize (B - fstT (Z1 f z)) / f.Period = T at e1 hT0
 generalize (B - fstT (Z1 f z)) % f.Period = R at e1 e2 e3
 by_cases hT:T≤8
 ·refine ⟨z,Yy _,g,hB,?_⟩;have:=YD hT (show 0≤f.Period by omega)
  omega
 ·obtain ⟨t,ht,ho⟩:=Z8G h (z:=z) h0 (-1) (.inr rfl) T
  obtain ⟨g',a,b⟩:=g.turn h ho
  have ex:(T + -1 * (t:Int)) * f.Period = f.Period * T - f.Period * t:=by
   rw [Y0i,Y0m,Y0z,Y0m,Yn T,Yn (t:Int)];omega
  have y1:=YD (show (t:Int)≤8 by omega) (show 0≤f.Period by omega)
  have y0:0≤f.Period * (t:Int):=Y0N (by omega) (by omega)
  have c0:0≤f.Count * (T + -1 * (t:Int)):=Y0N (by omega) (by omega)
  rw [ex] at a;exact ⟨_,by omega,g',by omega,by omega⟩
theorem lower {f:Form} (h:CloseF f) {z B:Int} (g:CoreG f z) (hB:B≤lstT (Z1 f z)):∃ z',z'≤z∧CoreG f z'∧B≤lstT (Z1 f z')∧lstT (Z1 f z') < B + 240:=by
 obtain ⟨h0,hP,h24⟩:=g.pos h
 have e1:=Yj (lstT (Z1 f z) - B) f.Period
 have e2:=Ye (lstT (Z1 f z) - B) (show f.Period ≠ 0 by omega)
 have e3:=Yl (lstT (Z1 f z) - B) hP
 have hT0:0≤(lstT (Z1 f z) - B) / f.Period:=Int.ediv_nonneg (by omega) (by omega)
 generalize (lstT (Z1 f z) - B) / f.Period = T at e1 hT0
 generalize (lstT (Z1 f z) - B) % f.Period = R at e1 e2 e3
 by_cases hT:T≤8
 ·refine ⟨z,Yy _,g,hB,?_⟩;have:=YD hT (show 0≤f.Period by omega)
  omega
 ·obtain ⟨t,ht,ho⟩:=Z8G h (z:=z) h0 1 (.inl rfl) (-T)
  obtain ⟨g',a,b⟩:=g.turn h ho
  have ex:(-T + 1 * (t:Int)) * f.Period = f.Period * t - f.Period * T:=by
   rw [Y0i,Y0m,Y0z,Yn T,Yn (t:Int)];omega
  have y1:=YD (show (t:Int)≤8 by omega) (show 0≤f.Period by omega)
  have y0:0≤f.Period * (t:Int):=Y0N (by omega) (by omega)
  have c0:f.Count * (-T + 1 * (t:Int))≤0:=by
   have:=Y0N (a:=f.Count) (b:=T - t) (by omega) (by omega)
   have e:f.Count * (-T + 1 * (t:Int)) = -(f.Count * (T - t)):=by rw [← Int.mul_neg];congr 1;omega
   omega
  rw [ex] at b;exact ⟨_,by omega,g',by omega,by omega⟩
theorem near_odd {f:Form} (h:CloseF f) {a k:Int} (ho:ZT f a) (hn:Z1 f a ≠ []) (hk : -20≤k∧k≤20) (hz:Z1 f (a + k) ≠ []):Z0s f (a + k):=by
 obtain ⟨na,a1,a2,a3⟩:=Z2P h ho hn
 by_cases oz:ZT f (a + k)
 ·exact (Z2P h oz hz).1
 ·have g:CoreG f (a + k):=⟨oz,hz⟩
  obtain ⟨h0,hP,h24⟩:=g.pos h
  have hw:=g.width h
  by_cases hk0:0≤k
  ·have hka:k ≠ 0:=fun hh => by subst hh;rw [Int.add_zero] at oz;exact oz ho
   have o1:=h.near.order (i:=a) (k:=a + k) (by omega) hn hz
   obtain ⟨t,ht,hf⟩:=Z8G h (z:=a + k) h0 (-1) (.inr rfl) (-k)
   obtain ⟨g',x,y⟩:=g.turn h hf
   have hlt:a + k + f.Count * (-k + -1 * (t:Int)) < a∨a + k + f.Count * (-k + -1 * (t:Int)) = a:=by
    have:=YE (show 1≤f.Count by omega) (show 0≤k + t by omega)
    have e:f.Count * (-k + -1 * (t:Int)) = -(f.Count * (k + t)):=by rw [← Int.mul_neg];congr 1;omega
    omega
   rcases hlt with hlt | hlt
   ·have o2:=h.near.order hlt g'.ne hn
    have hw':=g'.width h
    have ex:(-k + -1 * (t:Int)) * f.Period = -((k + t) * f.Period):=by rw [← Y0m];congr 1;omega
    have m:=Int.mul_le_mul (show k + (t:Int)≤28 by omega) h24 (by omega) (by omega)
    rw [ex] at x;exact g.near h ⟨by omega,by omega⟩
   ·rw [hlt] at hf;exact absurd ho hf
  ·have o1:=h.near.order (i:=a + k) (k:=a) (by omega) hz hn
   obtain ⟨t,ht,hf⟩:=Z8G h (z:=a + k) h0 1 (.inl rfl) (-k)
   obtain ⟨g',x,y⟩:=g.turn h hf
   have hlt:a < a + k + f.Count * (-k + 1 * (t:Int))∨a + k + f.Count * (-k + 1 * (t:Int)) = a:=by
    have:=YE (show 1≤f.Count by omega) (show 0≤-k + 1 * (t:Int) by omega)
    omega
   rcases hlt with hlt | hlt
   ·have o2:=h.near.order hlt hn g'.ne
    have hw':=g'.width h
    have m:=Int.mul_le_mul (show -k + 1 * (t:Int)≤28 by omega) h24 (by omega) (by omega)
    exact g.near h ⟨by omega,by omega⟩
   ·rw [hlt] at hf;exact absurd ho hf
end Go.Dn

namespace Go.Dn
open Go
theorem both {f:Form} (h:CloseF f) {i j:Int} (gi:CoreG f i) (gj:CoreG f j):∃ T,CoreG f (i + f.Count * T)∧CoreG f (j + f.Count * T)∧(-30≤fstT (Z1 f (i + f.Count * T))∧fstT (Z1 f (i + f.Count * T))≤414) ∧
  Z1 f (i + f.Count * T) = (Z1 f i).map (ZR (T * f.Period))∧Z1 f (j + f.Count * T) = (Z1 f j).map (ZR (T * f.Period))∧∃ s,0≤s∧s < f.Count∧∃ t:Nat,t≤16∧i + f.Count * T = s + f.Count * t:=by
 obtain ⟨h0,hP,h24⟩:=gi.pos h
 have hni:=gi.ne
 rw [Z0L h0 gi.no] at hni
 obtain ⟨s,q,s0,s1,ez,e⟩:=Z1F h0 i
 obtain ⟨t,ht,hn⟩:=pigeon (f.Odd.map (·.Index) ++ f.Odd.map (fun x => x.Index - (j - i))) (fun t => s + f.Count * t) (fun a b hab => by
  have h4:f.Count * (a:Int) = f.Count * b:=by omega
  have:=Y0C (by omega) h4
  omega)
 have h8:=h.near.small.2.1
 rw [Yk,YZ,YZ] at ht
 rw [Yq,not_or] at hn
 have ei:i + f.Count * (-q + t) = s + f.Count * t:=by
  rw [ez,Y0y,Int.mul_neg];omega
 have o1:¬ ZT f (i + f.Count * (-q + t)):=by
  rw [ei];rintro ⟨x,hx,e⟩;exact hn.1 (List.mem_map.2 ⟨x,hx,e⟩)
 have o2:¬ ZT f (j + f.Count * (-q + t)):=by
  rintro ⟨x,hx,e⟩;exact hn.2 (List.mem_map.2 ⟨x,hx,by rw [e];omega⟩)
 have ci:=(gi.turn h o1).1
 have cj:=(gj.turn h o2).1
 have hs:Z1 f (i + f.Count * (-q + t)) = (Z1 f i).map (ZR ((-q + t) * f.Period)):=by
  rw [Z0L h0 o1,Z0L h0 gi.no,Z2J h0]
 have hs2:Z1 f (j + f.Count * (-q + t)) = (Z1 f j).map (ZR ((-q + t) * f.Period)):=by
  rw [Z0L h0 o2,Z0L h0 gj.no,Z2J h0]
 refine ⟨-q + t,ci,cj,?_,hs,hs2,s,s0,s1,t,by omega,ei⟩
 have hcs:Z1 f (i + f.Count * (-q + t)) = (cs f s).map (ZR (t * f.Period)):=by
  rw [Z0L h0 o1,ei,Z2J h0]
 have hns:cs f s ≠ []:=by
  rw [e] at hni;simpa using hni
 rw [hcs,(ZZ _ hns).2]
 obtain ⟨⟨b1,b2,b3⟩,_⟩:=Z6X h h0 s0 s1 hns
 have m:=Int.mul_le_mul (show (t:Int)≤16 by omega) h24 (by omega) (by omega)
 have m0:0≤(t:Int) * f.Period:=Y0N (by omega) (by omega)
 omega
theorem two_near {f:Form} (h:CloseF f) {tv:List Span→List Span→Int} (hsh:∀ l m d,l ≠ []→m ≠ []→tv (l.map (ZR d)) (m.map (ZR d)) = tv l m) {k n:Int} (hk : -20≤k∧k≤20) :
  TwoP f tv k n ↔ ∃ i,Z0s f i∧Z0s f (i + k)∧n = tv (Z1 f i) (Z1 f (i + k)):=by
 constructor
 ·rintro ⟨i,h1,h2,h3⟩
  by_cases oi:ZT f i
  ·exact ⟨i,(Z2P h oi h1).1,near_odd h oi h1 hk h2,h3⟩
  ·by_cases oj:ZT f (i + k)
   ·refine ⟨i,?_,(Z2P h oj h2).1,h3⟩;have e:i + k + -k = i:=by omega
    have:=near_odd h oj h2 (k:=-k) (by omega) (by rw [e];exact h1)
    rwa [e] at this
   ·have gi:CoreG f i:=⟨oi,h1⟩
    have gj:CoreG f (i + k):=⟨oj,h2⟩
    obtain ⟨h0,hP,h24⟩:=gi.pos h
    obtain ⟨T,ci,cj,hb,e1,e2,s,s0,s1,t,ht,ei⟩:=both h gi gj
    have ek:i + f.Count * T + k = i + k + f.Count * T:=by omega
    refine ⟨i + f.Count * T,ci.near h (by omega),?_,?_⟩
    ·rw [ek];have hcj:=cj.ne
     have hcs:=Z0L h0 cj.no
     obtain ⟨j2,q2,j0,j1,e3,e4⟩:=Z1F h0 (s + k)
     have e5:i + k + f.Count * T = j2 + f.Count * (q2 + t):=by rw [Y0y];omega
     have e6:cs f (i + k + f.Count * T) = (cs f j2).map (ZR ((q2 + t) * f.Period)):=by rw [e5,Z2J h0]
     have hn2:cs f j2 ≠ []:=by
      rw [hcs,e6] at hcj;simpa using hcj
     obtain ⟨⟨b1,b2,b3⟩,_⟩:=Z6X h h0 j0 j1 hn2
     have q1:q2≤20:=by
      by_cases hq:q2≤20
      ·exact hq
      ·have:=YD (show 21≤q2 by omega) (show 0≤f.Count by omega)
       omega
     have q0 : -20≤q2:=by
      by_cases hq : -20≤q2
      ·exact hq
      ·have:=YD (show q2≤-21 by omega) (show 0≤f.Count by omega)
       omega
     apply cj.near h;rw [hcs,e6,(ZZ _ hn2).2];have m1:(q2 + t) * f.Period≤36 * f.Period:=YE (by omega) (by omega)
     have m2 : -20 * f.Period≤(q2 + t) * f.Period:=YE (by omega) (by omega)
     omega
    ·rw [ek,e1,e2,hsh _ _ _ h1 h2];exact h3
 ·rintro ⟨i,h1,h2,h3⟩;exact ⟨i,Z3X h1,Z3X h2,h3⟩
theorem down_near {f:Form} (h:CloseF f) {d i j:Int} (hd : -200≤d∧d≤200) (h1:Z1 f i ≠ []) (h2:Z1 f j ≠ []) (hp:fstT (Z1 f j) - lstT (Z1 f i)≤d) :
  ∃ i' j',Z0s f i'∧Z0s f j'∧(-800≤fstT (Z1 f i')∧fstT (Z1 f i')≤800)∧fstT (Z1 f j') - lstT (Z1 f i')≤d∧j - i≤j' - i':=by
 by_cases oi:ZT f i
 ·obtain ⟨ni,a1,a2,a3⟩:=Z2P h oi h1
  by_cases oj:ZT f j
  ·exact ⟨i,j,ni,(Z2P h oj h2).1,by omega,hp,by omega⟩
  ·have gj:CoreG f j:=⟨oj,h2⟩
   obtain ⟨j',p1,p2,p3,p4⟩:=raise h gj (B:=lstT (Z1 f i) + d) (by omega)
   exact ⟨i,j',ni,p2.near h (by omega),by omega,by omega,by omega⟩
 ·have gi:CoreG f i:=⟨oi,h1⟩
  by_cases oj:ZT f j
  ·obtain ⟨nj,b1,b2,b3⟩:=Z2P h oj h2
   obtain ⟨i',p1,p2,p3,p4⟩:=lower h gi (B:=fstT (Z1 f j) - d) (by omega)
   have hw:=p2.width h
   exact ⟨i',j,p2.near h (by omega),nj,by omega,by omega,by omega⟩
  ·have gj:CoreG f j:=⟨oj,h2⟩
   obtain ⟨T,ci,cj,hb,e1,e2,_⟩:=both h gi gj
   have hw:=ci.width h
   have x1:lstT (Z1 f (i + f.Count * T)) = lstT (Z1 f i) + T * f.Period:=by rw [e1,(ZZ _ h1).1]
   have x2:fstT (Z1 f (j + f.Count * T)) = fstT (Z1 f j) + T * f.Period:=by rw [e2,(ZZ _ h2).2]
   obtain ⟨j',p1,p2,p3,p4⟩:=raise h cj (B:=lstT (Z1 f (i + f.Count * T)) + d) (by omega)
   exact ⟨_,j',ci.near h (by omega),p2.near h (by omega),by omega,by omega,by omega⟩
theorem up_near {f:Form} (h:CloseF f) {d i j:Int} (hd : -200≤d∧d≤200) (h1:Z1 f i ≠ []) (h2:Z1 f j ≠ []) (hp:d≤lstT (Z1 f j) - fstT (Z1 f i)) :
  ∃ i' j',Z0s f i'∧Z0s f j'∧(-800≤fstT (Z1 f i')∧fstT (Z1 f i')≤800)∧d≤lstT (Z1 f j') - fstT (Z1 f i')∧j' - i'≤j - i:=by
 by_cases oi:ZT f i
 ·obtain ⟨ni,a1,a2,a3⟩:=Z2P h oi h1
  by_cases oj:ZT f j
  ·exact ⟨i,j,ni,(Z2P h oj h2).1,by omega,hp,by omega⟩
  ·have gj:CoreG f j:=⟨oj,h2⟩
   obtain ⟨j',p1,p2,p3,p4⟩:=lower h gj (B:=fstT (Z1 f i) + d) (by omega)
   have hw:=p2.width h
   exact ⟨i,j',ni,p2.near h (by omega),by omega,by omega,by omega⟩
 ·have gi:CoreG f i:=⟨oi,h1⟩
  by_cases oj:ZT f j
  ·obtain ⟨nj,b1,b2,b3⟩:=Z2P h oj h2
   obtain ⟨i',p1,p2,p3,p4⟩:=raise h gi (B:=lstT (Z1 f j) - d) (by omega)
   exact ⟨i',j,p2.near h (by omega),nj,by omega,by omega,by omega⟩
  ·have gj:CoreG f j:=⟨oj,h2⟩
   obtain ⟨T,ci,cj,hb,e1,e2,_⟩:=both h gi gj
   have x1:fstT (Z1 f (i + f.Count * T)) = fstT (Z1 f i) + T * f.Period:=by rw [e1,(ZZ _ h1).2]
   have x2:lstT (Z1 f (j + f.Count * T)) = lstT (Z1 f j) + T * f.Period:=by rw [e2,(ZZ _ h2).1]
   obtain ⟨j',p1,p2,p3,p4⟩:=lower h cj (B:=fstT (Z1 f (i + f.Count * T)) + d) (by omega)
   have hw:=p2.width h
   exact ⟨_,j',ci.near h (by omega),p2.near h (by omega),by omega,by omega,by omega⟩
end Go.Dn

namespace Go.Dn
open Go
theorem near_vals {f:Form} (h:CloseF f) {z:Int} (hz:Z0s f z) : -1300≤fstT (Z1 f z)∧fstT (Z1 f z)≤1300∧-1300≤lstT (Z1 f z)∧lstT (Z1 f z)≤1300:=by
 have hn:=Z3X hz
 have hi:=near_idx h hz
 by_cases ho:ZT f z
 ·have:=(Z2P h ho hn).2;omega
 ·have g:CoreG f z:=⟨ho,hn⟩
  obtain ⟨t,⟨u,hu,u1,u2⟩,t1,t2⟩:=hz
  have hw:=g.width h
  have:=Z4f (g.right h hi) u hu
  omega
section
variable {f:Form} {P:List Int}
theorem pl_small (h:CloseF f) (hm:∀ z,z ∈ P ↔ Z0s f z) (hl:P.length≤50000):SmallPl (P.map (plOf f)):=by
 refine ⟨by rw [YZ];omega,fun a ha => ?_⟩
 obtain ⟨z,hz,rfl⟩:=List.mem_map.1 ha
 have h1:=near_idx h ((hm z).1 hz)
 have h2:=near_vals h ((hm z).1 hz)
 simp only [plOf]
 omega
theorem pl_inc (hs:P.Pairwise (· < ·)):IncPl (P.map (plOf f)):=by
 unfold IncPl
 rw [List.pairwise_map]
 exact hs
theorem pairL_iff (hm:∀ z,z ∈ P ↔ Z0s f z) {k n:Int}:PairL (P.map (plOf f)) (P.map (plOf f)) k n ↔ ∃ i,Z0s f i∧Z0s f (i + k)∧n = fstT (Z1 f (i + k)) - lstT (Z1 f i):=by
 constructor
 ·rintro ⟨a,ha,b,hb,h1,h2⟩;obtain ⟨i,hi,rfl⟩:=List.mem_map.1 ha
  obtain ⟨j,hj,rfl⟩:=List.mem_map.1 hb
  simp only [plOf] at h1 h2;subst h1;exact ⟨i,(hm i).1 hi,(hm _).1 hj,h2⟩
 ·rintro ⟨i,hi,hj,h2⟩;exact ⟨plOf f i,List.mem_map.2 ⟨i,(hm i).2 hi,rfl⟩,plOf f (i + k),List.mem_map.2 ⟨_,(hm _).2 hj,rfl⟩,rfl,h2⟩
theorem pairM_iff (hm:∀ z,z ∈ P ↔ Z0s f z) {k n:Int}:PairM (P.map (plOf f)) (P.map (plOf f)) k n ↔ ∃ i,Z0s f i∧Z0s f (i + k)∧n = lstT (Z1 f (i + k)) - fstT (Z1 f i):=by
 constructor
 ·rintro ⟨a,ha,b,hb,h1,h2⟩;obtain ⟨i,hi,rfl⟩:=List.mem_map.1 ha
  obtain ⟨j,hj,rfl⟩:=List.mem_map.1 hb
  simp only [plOf] at h1 h2;subst h1;exact ⟨i,(hm i).1 hi,(hm _).1 hj,h2⟩
 ·rintro ⟨i,hi,hj,h2⟩;exact ⟨plOf f i,List.mem_map.2 ⟨i,(hm i).2 hi,rfl⟩,plOf f (i + k),List.mem_map.2 ⟨_,(hm _).2 hj,rfl⟩,rfl,h2⟩
theorem ZAS (hm:∀ z,z ∈ P ↔ Z0s f z) {d n:Int}:DownP (P.map (plOf f)) (P.map (plOf f)) d n ↔ ∃ i j,Z0s f i∧Z0s f j∧(-800≤fstT (Z1 f i)∧fstT (Z1 f i)≤800)∧fstT (Z1 f j) - lstT (Z1 f i)≤d∧n = j - i:=by
 constructor
 ·rintro ⟨a,ha,b,hb,h1,h2,h3,h4⟩;obtain ⟨i,hi,rfl⟩:=List.mem_map.1 ha
  obtain ⟨j,hj,rfl⟩:=List.mem_map.1 hb
  exact ⟨i,j,(hm i).1 hi,(hm _).1 hj,⟨h1,h2⟩,h3,h4⟩
 ·rintro ⟨i,j,hi,hj,⟨h1,h2⟩,h3,h4⟩;exact ⟨plOf f i,List.mem_map.2 ⟨i,(hm i).2 hi,rfl⟩,plOf f j,List.mem_map.2 ⟨_,(hm _).2 hj,rfl⟩,h1,h2,h3,h4⟩
theorem upP_iff (hm:∀ z,z ∈ P ↔ Z0s f z) {d n:Int}:UpP (P.map (plOf f)) (P.map (plOf f)) d n ↔ ∃ i j,Z0s f i∧Z0s f j∧(-800≤fstT (Z1 f i)∧fstT (Z1 f i)≤800)∧d≤lstT (Z1 f j) - fstT (Z1 f i)∧n = j - i:=by
 constructor
 ·rintro ⟨a,ha,b,hb,h1,h2,h3,h4⟩;obtain ⟨i,hi,rfl⟩:=List.mem_map.1 ha
  obtain ⟨j,hj,rfl⟩:=List.mem_map.1 hb
  exact ⟨i,j,(hm i).1 hi,(hm _).1 hj,⟨h1,h2⟩,h3,h4⟩
 ·rintro ⟨i,j,hi,hj,⟨h1,h2⟩,h3,h4⟩;exact ⟨plOf f i,List.mem_map.2 ⟨i,(hm i).2 hi,rfl⟩,plOf f j,List.mem_map.2 ⟨_,(hm _).2 hj,rfl⟩,h1,h2,h3,h4⟩
end
theorem down_zero {f:Form} (hl:Lim f) (hr:RightF f) (hsm:FewF f) {d:Int} (hd:ZF d):∃ n b,Z18 f d = some (n,b,0)∧DownS f d (n,b)∧(b = false→n = 0):=by
 obtain ⟨g,g1,g2,g3,g4⟩:=Z5p hl hr hsm
 obtain ⟨n,b,e1,e2,e3⟩:=far_eq g1 g2 g3 hd false
 obtain ⟨n',b',e',_,hs⟩:=size_Down_eq hl hr hsm hd
 have e:Z18 f d = some (n,b,0):=by unfold Z18;rw [e1];rfl
 rw [e] at e'
 cases e'
 refine ⟨n,b,e,hs,fun hb => ?_⟩
 have:=(e3.no hb).1
 simpa [sgU] using this
theorem up_zero {f:Form} (hl:Lim f) (hr:RightF f) (hsm:FewF f) {d:Int} (hd:ZF d):∃ n b,Z2n f d = some (n,b,0)∧UpS f d (n,b)∧(b = false→n = 0):=by
 obtain ⟨g,g1,g2,g3,g4⟩:=Z5p hl hr hsm
 obtain ⟨n,b,e1,e2,e3⟩:=far_eq g1 g2 g3 hd true
 obtain ⟨n',b',e',_,hs⟩:=size_Up_eq hl hr hsm hd
 have e:Z2n f d = some (n,b,0):=by unfold Z2n;rw [e1];rfl
 rw [e] at e'
 cases e'
 refine ⟨n,b,e,hs,fun hb => ?_⟩
 have:=(e3.no hb).1
 simp only [sgU,if_true] at this
 omega
theorem Z4j {n m:Int} {a b:Bool} (h1:n = m) (h2:a = b):Z3 n a 0 m b = true:=by
 subst h1;subst h2;simp [Z3]
theorem ZBF (x:Int) {m:Int} (hm:0 < m) : -m < x.tmod m∧x.tmod m < m:=by
 have h1:=Int.tmod_lt_of_pos x hm
 have h2:=Int.lt_tmod_of_pos x hm
 omega
theorem ZCg (f:Form) (k d:Int) (hf:f.ok) (hk:okI .i8 k) (hd:okI .i16 d):Z27 f k d = some true:=by
 have hl:=Form.lim hf
 unfold Z27
 obtain ⟨b,e1,i1⟩:=close20_eq hl
 rw [e1]
 cases b with
 | false => rfl
 | true =>
 have h:=i1 rfl
 have hr:=h.near.right
 have hsm:=h.near.small.few
 simp only [Y0,YH,cond_false]
 rw [anewForm_eq hl]
 simp only [Y0]
 obtain ⟨P,e2,ps,pm,pl⟩:=near_eq22 h
 rw [e2]
 simp only [Y0]
 have hkb:=ZBF (w64 k) (m:=21) (by omega)
 have hdb:=ZBF (w64 d) (m:=201) (by omega)
 generalize (w64 k).tmod 21 = k at hkb ⊢
 generalize (w64 d).tmod 201 = d at hdb ⊢
 have hsmall:=pl_small h pm pl
 have hinc:=pl_inc (f:=f) ps
 obtain ⟨x,y,b,e3,mL,mM⟩:=ref_Two_eq hsmall hinc (k:=k) (by omega)
 have hfe:(Form.mk f.Period f.Count f.Core f.Odd) = f:=by cases f;rfl
 rw [hfe,e3]
 simp only [Y0]
 have shL:∀ l m d,l ≠ []→m ≠ []→tvL (l.map (ZR d)) (m.map (ZR d)) = tvL l m:=tells_L.shift
 have shM:∀ l m d,l ≠ []→m ≠ []→tvM (l.map (ZR d)) (m.map (ZR d)) = tvM l m:=tells_M.shift
 have iL:∀ n,PairL (P.map (plOf f)) (P.map (plOf f)) k n ↔ TwoP f tvL k (-n):=by
  intro n;rw [pairL_iff pm,two_near h shL (by omega)]
  constructor
  ·rintro ⟨i,a1,a2,a3⟩;exact ⟨i,a1,a2,by unfold tvL;omega⟩
  ·rintro ⟨i,a1,a2,a3⟩;exact ⟨i,a1,a2,by unfold tvL at a3;omega⟩
 have iM:∀ n,PairM (P.map (plOf f)) (P.map (plOf f)) k n ↔ TwoP f tvM k n:=by
  intro n;rw [pairM_iff pm,two_near h shM (by omega)]
  rfl
 -- least
 have t1:∃ q,Z1b f k = some q∧Z3 q.1 q.2.1 q.2.2 x b = true:=by
  obtain ⟨n,b',e,hB,hin⟩:=least_ok h (k:=k) (by omega)
  refine ⟨_,e,?_⟩;cases b' with
  | true =>
   obtain ⟨q1,q2⟩:=hB.yes rfl
   simp only at q1 q2;obtain ⟨r1,r2⟩:=mL.2 (-n) ((iL _).2 (by rw [Int.neg_neg];exact q1))
   have r3:=q2 _ ((iL x).1 (mL.1.1 r1))
   have hx:x = -n:=by omega
   have hxs : -1000000000000≤x∧x≤1000000000000:=by
    obtain ⟨a,ha,c,hc,_,hv⟩:=mL.1.1 r1
    have v1:=hsmall.val a ha
    have v2:=hsmall.val c hc
    omega
   exact Z4j (by rw [Z9 (by omega)];omega) r1.symm
  | false =>
   obtain ⟨q1,q2⟩:=hB.no rfl
   simp only at q1 q2;have hb:b = false:=by
    cases hbb:b with
    | false => rfl
    | true => exact absurd ((iL x).1 (mL.1.1 hbb)) (q2 _)
   have hx:=mL.1.2 hb
   exact Z4j (by rw [q1,hx];rfl) hb.symm
 obtain ⟨q5,e5,g5⟩:=t1
 rw [e5]
 simp only [Y0]
 rw [g5,YH,cond_false]
 have t2:∃ q,Z2j f k = some q∧Z3 q.1 q.2.1 q.2.2 y b = true:=by
  obtain ⟨n,b',e,hB,hin⟩:=most_ok h (k:=k) (by omega)
  refine ⟨_,e,?_⟩;cases b' with
  | true =>
   obtain ⟨q1,q2⟩:=hB.yes rfl
   simp only at q1 q2;obtain ⟨r1,r2⟩:=mM.2 n ((iM _).2 q1)
   have r3:=q2 _ ((iM y).1 (mM.1.1 r1))
   exact Z4j (by omega) r1.symm
  | false =>
   obtain ⟨q1,q2⟩:=hB.no rfl
   simp only at q1 q2;have hb:b = false:=by
    cases hbb:b with
    | false => rfl
    | true => exact absurd ((iM y).1 (mM.1.1 hbb)) (q2 _)
   have hx:=mM.1.2 hb
   exact Z4j (by rw [q1,hx]) hb.symm
 obtain ⟨q6,e6,g6⟩:=t2
 rw [e6]
 simp only [Y0]
 rw [g6,YH]
 simp only [cond_false]
 have hdt:ZF d:=by unfold ZF;omega
 obtain ⟨u,v,e7,mD⟩:=ref_Down_eq hsmall d
 rw [e7]
 simp only [Y0]
 have t3:∃ q,Z18 f d = some q∧Z3 q.1 q.2.1 q.2.2 u v = true:=by
  obtain ⟨n,b',e,hS,hz⟩:=down_zero hl hr hsm hdt
  refine ⟨_,e,?_⟩;cases b' with
  | true =>
   obtain ⟨⟨i,j,p,q1⟩,q2⟩:=hS.yes rfl
   simp only at q1 q2;obtain ⟨i',j',n1,n2,n3,n4,n5⟩:=down_near h (d:=d) (by omega) p.1 p.2.1 (by simpa using p.2.2)
   obtain ⟨r1,r2⟩:=mD.2 (j' - i') ((ZAS pm).2 ⟨i',j',n1,n2,n3,n4,rfl⟩)
   obtain ⟨a,c,a1,a2,a3,a4,a5⟩:=(ZAS pm).1 (mD.1.1 r1)
   have r3:=q2 a c ⟨Z3X a1,Z3X a2,by simpa using a4⟩
   exact Z4j (by omega) r1.symm
  | false =>
   have hn:=hz rfl
   have hv:v = false:=by
    cases hbb:v with
    | false => rfl
    | true =>
     obtain ⟨a,c,a1,a2,a3,a4,a5⟩:=(ZAS pm).1 (mD.1.1 hbb)
     exact absurd ⟨Z3X a1,Z3X a2,by simpa using a4⟩ (hS.no rfl a c)
   have hu:=mD.1.2 hv
   exact Z4j (by rw [hn,hu]) hv.symm
 obtain ⟨q8,e8,g8⟩:=t3
 rw [e8]
 simp only [Y0]
 rw [g8,YH,cond_false]
 obtain ⟨u2,v2,e9,mU⟩:=ref_Up_eq hsmall d
 rw [e9]
 simp only [Y0]
 have t4:∃ q,Z2n f d = some q∧Z3 q.1 q.2.1 q.2.2 u2 v2 = true:=by
  obtain ⟨n,b',e,hS,hz⟩:=up_zero hl hr hsm hdt
  refine ⟨_,e,?_⟩;cases b' with
  | true =>
   obtain ⟨⟨i,j,p,q1⟩,q2⟩:=hS.yes rfl
   simp only at q1 q2;obtain ⟨i',j',n1,n2,n3,n4,n5⟩:=up_near h (d:=d) (by omega) p.1 p.2.1 (by simpa using p.2.2)
   obtain ⟨r1,r2⟩:=mU.2 (j' - i') ((upP_iff pm).2 ⟨i',j',n1,n2,n3,n4,rfl⟩)
   obtain ⟨a,c,a1,a2,a3,a4,a5⟩:=(upP_iff pm).1 (mU.1.1 r1)
   have r3:=q2 a c ⟨Z3X a1,Z3X a2,by simpa using a4⟩
   exact Z4j (by omega) r1.symm
  | false =>
   have hn:=hz rfl
   have hv:v2 = false:=by
    cases hbb:v2 with
    | false => rfl
    | true =>
     obtain ⟨a,c,a1,a2,a3,a4,a5⟩:=(upP_iff pm).1 (mU.1.1 hbb)
     exact absurd ⟨Z3X a1,Z3X a2,by simpa using a4⟩ (hS.no rfl a c)
   have hu:=mU.1.2 hv
   exact Z4j (by rw [hn,hu]) hv.symm
 obtain ⟨q10,e10,g10⟩:=t4
 rw [e10]
 simp only [Y0]
 rw [g10,cond_true]
 obtain ⟨r,e11,i11⟩:=alikeForms_eq (a:=f) (b:=f) hl
 rw [e11,i11.2 rfl]
 rfl
end Go.Dn
