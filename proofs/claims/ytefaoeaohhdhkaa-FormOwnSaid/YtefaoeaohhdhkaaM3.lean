/- Part 3 of what the row stands on. -/
import Derived.Test.YtefaoeaohhdhkaaM2
set_option linter.unusedVariables false
set_option linter.unusedSimpArgs false
namespace Go.Dn
open Go Go.Proofs
abbrev RowS (w:PV) (R:List Res):Prop:=Z1u 43 Span.cs 2 w R
def coreV (f:Form):List PV:=f.Core.map λr=>.v (.sl (r.map Span.cs))
def oddV (f:Form):List (Int×PV):=f.Odd.map λg=>(g.Index,.v (.sl (g.Ticks.map Span.cs)))
theorem ownF {f:Form} {u:Unit} (h:own? f=some u):f.Core.length*24<=room/\f.Odd.length*32<=room/\(∀ r∈f.Core,r.length*16<=room)/\∀ g∈f.Odd,g.Ticks.length*16<=room:=by
 unfold own? at h
 cases hc:(((decide (f.Core.length*24<=room))&&(decide (f.Odd.length*32<=room)))&&((f.Core.all λr=>decide (r.length*16<=room))&&(f.Odd.all λg=>decide (g.Ticks.length*16<=room)))) with
 | false=>rw [hc] at h;cases h
 | true=>
  simp only [Y8,decide_eq_true_eq,YC] at hc;exact ⟨hc.1.1,hc.1.2,hc.2.1,hc.2.2⟩
theorem nil_out {f:FuncId} {a r:PV} {P1:PV->List Res->Prop} (h:FnO CZ f [a] (λq A=>q=r/\A=[])) (hP:P1 r [.floor 0]):FnO CZ f [a] P1:=λG T H=>by
 obtain ⟨q,G',A,h1,⟨rfl,rfl⟩,h3⟩:=h G T H
 exact ⟨_,G',[.floor 0],h1,hP,h3.floor 0 (YW _)⟩
theorem core_flat (l:List (List Span)):vs ((l.map (cL Span.cs)).flatten)=l.map λr=>.v (.sl (r.map Span.cs)):=by
 induction l with
 | nil=>rfl
 | cons r l ih=>rw [Yz,YO,Z1l,ih];rfl
theorem odd_flat (l:List Granule):vs ((l.map Granule.cs).flatten)=gcells (l.map λg=>(g.Index,.v (.sl (g.Ticks.map Span.cs)))):=by
 induction l with
 | nil=>rfl
 | cons r l ih=>rw [Yz,YO,Z1l,ih];rfl
theorem clone45 {f:Form} (h:f.Core.length*24<=room):FnO CZ 45 [.v (.sl (f.Core.map (cL Span.cs)))] (λq A=>∃ O,A=[O]/\Z4V 31 1 q O f.Core.length (coreV f)):=by
 cases hc:f.Core with
 | nil=>exact nil_out (cloneNil45 (l:=[]) rfl) ⟨_,rfl,.inl ⟨rfl,rfl,rfl⟩⟩
 | cons a l=>
  intro G T H;have h1:Zn (a::l)=some (a::l):=by
   unfold Zn;rw [show some? (a::l)=some () from rfl,Y1];unfold app?;rw [if_pos (by rw [hc] at h;simpa using h)]
   rfl
  obtain ⟨q,G',A,e1,⟨w,rfl,rfl⟩,e3⟩:=Z1x h1 G T H;obtain ⟨_,⟨_,h2⟩|⟨id,h2,h3⟩⟩:=e3.sl (k:=0) rfl
  ·cases h2
  ·subst h2;refine ⟨_,G',[.blk id 31 (vs (((a::l).map (cL Span.cs)).flatten))],e1,⟨_,rfl,.inr ⟨id,by simp,?_,?_⟩⟩,e3.say (k:=0) rfl h3 rfl⟩
   ·unfold coreV;rw [hc];simp
   ·unfold coreV;rw [hc,core_flat]
theorem clone46 {f:Form} (h:f.Odd.length*32<=room):FnO CZ 46 [.v (.sl (f.Odd.map Granule.cs))] (λq A=>∃ O,A=[O]/\Z4V 45 2 q O f.Odd.length (gcells (oddV f))):=by
 cases hc:f.Odd with
 | nil=>exact nil_out (cloneNil46 (l:=[]) rfl) ⟨_,rfl,.inl ⟨rfl,rfl,rfl⟩⟩
 | cons a l=>
  intro G T H;have h1:Zc (a::l)=some (a::l):=by
   unfold Zc;rw [show some? (a::l)=some () from rfl,Y1];unfold app?;rw [if_pos (by rw [hc] at h;simpa using h)]
   rfl
  obtain ⟨q,G',A,e1,⟨w,rfl,rfl⟩,e3⟩:=Z1K h1 G T H;obtain ⟨_,⟨_,h2⟩|⟨id,h2,h3⟩⟩:=e3.sl (k:=0) rfl
  ·cases h2
  ·subst h2;refine ⟨_,G',[.blk id 45 (vs (((a::l).map Granule.cs).flatten))],e1,⟨_,rfl,.inr ⟨id,by simp,?_,?_⟩⟩,e3.say (k:=0) rfl h3 rfl⟩
   ·rw [Z4h];unfold oddV;rw [hc];simp
   ·unfold oddV;rw [hc,odd_flat]
theorem clone47 {row:List Span} (h:row.length*16<=room):FnO CZ 47 [.v (.sl (row.map Span.cs))] (λq A=>∃ O,A=[O]/\RowS q [O]):=by
 cases hc:row with
 | nil=>exact nil_out (cloneNil47 (l:=[]) rfl) ⟨_,rfl,.inl rfl⟩
 | cons a l=>
  intro G T H;have h1:Zy (a::l)=some (a::l):=by
   unfold Zy;rw [show some? (a::l)=some () from rfl,Y1];unfold app?;rw [if_pos (by rw [hc] at h;simpa using h)]
   rfl
  obtain ⟨q,G',A,e1,⟨w,rfl,rfl⟩,e3⟩:=Z26 h1 G T H;obtain ⟨_,⟨_,h2⟩|⟨id,h2,h3⟩⟩:=e3.sl (k:=0) rfl
  ·cases h2
  ·subst h2;exact ⟨_,G',_,e1,⟨_,rfl,.inr ⟨id,0,a::l,by simp,rfl,by rw [hc] at h;unfold room at h;omega⟩⟩,e3⟩
theorem Z1u.cell {rt:TypeId} {α:Type} {c:α->List FV} {sz:Nat} {w:PV} {R:List Res} (h:Z1u rt c sz w R):w.cells=some [w]:=by
 rcases h with rfl|⟨_,_,_,rfl,_⟩<;>rfl
def CopyOf (f:Form) (r:PV) (A:List Res):Prop:=∃ wc wo OC OO ws gs R,r = .agg [.v (.int .i64 f.Period),.v (.int .i64 f.Count),wc,wo]/\A=OC::OO::R/\Z4V 31 1 wc OC f.Core.length ws/\Z4V 45 2 wo OO f.Odd.length (gcells gs) /\
 ws.length=f.Core.length/\gs.length=f.Odd.length/\(∀ w∈ws,RowS w R)/\∀ g∈gs,RowS g.2 R
set_option maxRecDepth 100000 in
set_option maxHeartbeats 8000000 in
theorem copy_open {f:Form} {u:Unit} (h:own? f=some u):FnO CZ 23 [.agg (vs (Form.cs f))] (CopyOf f):=by
 obtain ⟨s1,s2,s3,s4⟩:=ownF h
 have n1:f.Core.length<10000000000000:=by unfold room at s1;omega
 have n2:f.Odd.length<10000000000000:=by unfold room at s2;omega
 refine FnO.of Try.func23 rfl rfl rfl rfl rfl rfl ?_
 intro G T H
 apply Runs.then
 refine Runs.Z9 2 rfl H ?_;intro b1 G H
 refine Ops.boxH (cs:=vs (Form.cs f)) H (by omega) (by omega) rfl rfl rfl ?_;intro G H
 refine Ops.allocH (cs:=[(.v (.int .i64 0)),(.v (.int .i64 0)),.nils,.nils]) H (by omega) (by omega) rfl rfl ?_;intro G H
 apply Ops.nil
 replace H:=H.all
 apply Runs.then
 refine Runs.Z22 13 rfl (by kernel_rfl) H ?_;intro b2 G H B2
 refine Ops.ZA (off:=0) (fo:=0) H 1 rfl rfl rfl rfl rfl (λ_=>.inl ⟨B2 1 _ rfl _ rfl,nofun,(λ_=>by kernel_rfl)⟩) rfl ?_
 refine Ops.Z1R (off:=0) (v:=(.v (.int .i64 f.Period))) H 1 rfl rfl rfl rfl rfl (λ_=>.inl ⟨B2 1 _ rfl _ rfl,nofun,(λ_=>by kernel_rfl)⟩) rfl ?_
 refine Ops.ZA (off:=0) (fo:=1) H 1 rfl rfl rfl rfl rfl (λ_=>.inl ⟨B2 1 _ rfl _ rfl,nofun,(λ_=>by kernel_rfl)⟩) rfl ?_
 refine Ops.Z1R (off:=1) (v:=(.v (.int .i64 f.Count))) H 1 rfl rfl rfl rfl rfl (λ_=>.inl ⟨B2 1 _ rfl _ rfl,nofun,(λ_=>by kernel_rfl)⟩) rfl ?_
 refine Ops.ZA (off:=0) (fo:=2) H 1 rfl rfl rfl rfl rfl (λ_=>.inl ⟨B2 1 _ rfl _ rfl,nofun,(λ_=>by kernel_rfl)⟩) rfl ?_
 refine Ops.Z1R (off:=2) (v:=(.v (.sl (f.Core.map (cL Span.cs))))) H 1 rfl rfl rfl rfl rfl (λ_=>.inl ⟨B2 1 _ rfl _ rfl,nofun,(λ_=>by kernel_rfl)⟩) rfl ?_
 refine Ops.callFM (ys:=[(.v (.sl (f.Core.map (cL Span.cs))))]) H rfl (clone45 s1) rfl (YA _) (λ_=>by kernel_rfl) rfl ?_;rintro wc _ G ⟨OC,rfl,hC⟩ H
 refine Ops.ZA (off:=0) (fo:=3) H 2 rfl rfl rfl rfl rfl (λ_=>.inl ⟨B2 1 _ rfl _ rfl,nofun,(λ_=>by kernel_rfl)⟩) rfl ?_
 refine Ops.Z1R (off:=3) (v:=(.v (.sl (f.Odd.map Granule.cs)))) H 2 rfl rfl rfl rfl rfl (λ_=>.inl ⟨B2 1 _ rfl _ rfl,nofun,(λ_=>by kernel_rfl)⟩) rfl ?_
 refine Ops.callFM (ys:=[(.v (.sl (f.Odd.map Granule.cs)))]) H rfl (clone46 s2) rfl (YA _) (λ_=>by kernel_rfl) rfl ?_;rintro wo _ G ⟨OO,rfl,hO⟩ H
 refine Ops.buildA (cs:=[(.v (.int .i64 f.Period)),(.v (.int .i64 f.Count)),wc,wo]) (by rcases hC with ⟨rfl,_⟩|⟨_,rfl,_⟩<;>rcases hO with ⟨rfl,_⟩|⟨_,rfl,_⟩<;>rfl) rfl ?_
 refine Ops.allocH (cs:=[(.v (.int .i64 0)),(.v (.int .i64 0)),.nils,.nils]) H (by omega) (by omega) rfl rfl ?_;intro G H
 refine Ops.Z3a (off:=0) (cells':=[(.v (.int .i64 f.Period)),(.v (.int .i64 f.Count)),wc,wo]) H 0 rfl rfl rfl rfl rfl rfl rfl rfl rfl (λ_=>.inr ⟨11,rfl,by kernel_rfl,by decide⟩) ?_;intro G H
 apply Ops.nil
 replace H:=H.all
 -- the rows of the core
 have H:Hs G (.blk (b2+11) 25 [(.v (.int .i64 f.Period)),(.v (.int .i64 f.Count)),wc,wo]::OO::OC :: .blk (b1+1) 25 [(.v (.int .i64 0)),(.v (.int .i64 0)),.nils,.nils] :: .blk (b1+0) 25 (vs (Form.cs f))::([]++T)):=H
 apply Runs.then
 refine Runs.mono (Q:=λx e G=>x = .normal/\∃ ws OC R,Z4V 31 1 wc OC f.Core.length ws/\ws.length=f.Core.length/\(∀ w∈ws,RowS w R)/\ZC e [(2,(.ptr (b1+1) 4 0)),(3,(.ptr (b2+11) 4 0))] /\
  Hs G (.blk (b2+11) 25 [(.v (.int .i64 f.Period)),(.v (.int .i64 f.Count)),wc,wo]::OO::OC :: .blk (b1+1) 25 [(.v (.int .i64 0)),(.v (.int .i64 0)),.nils,.nils] :: .blk (b1+0) 25 (vs (Form.cs f))::(R++T))) ?_ ?_
 ·apply Runs.then;refine Runs.Z9 4 rfl H ?_;intro b3 G H;refine Ops.ZA (off:=0) (fo:=2) H 0 rfl rfl rfl rfl rfl nofun rfl ?_;refine Ops.Z1R (off:=2) (v:=wc) H 0 rfl rfl rfl rfl rfl nofun rfl ?_;refine Ops.lenO H 2 rfl hC rfl rfl rfl ?_;refine Ops.move (v:=(.v (.int .i64 0))) rfl rfl ?_;apply Ops.nil;replace H:=H.all
  apply Runs.inBlock;refine Runs.loop (λm e G=>∃ (i:Nat) (ws:List PV) (OC:Res) (R:List Res),m=f.Core.length-i/\i<=f.Core.length/\Z4V 31 1 wc OC f.Core.length ws/\ws.length=f.Core.length/\(∀ (k:Nat) (w:PV),k<i->ws[k]? = some w->RowS w R)/\(∀ (k:Nat) (r:List Span),i<=k->f.Core[k]? = some r->ws[k]? = some (.v (.sl (r.map Span.cs)))) /\
   ZC e [(2,(.ptr (b1+1) 4 0)),(3,(.ptr (b2+11) 4 0)),(19,(.v (.int .i64 f.Core.length))),(20,(.v (.int .i64 i)))] /\
   Hs G (.blk (b2+11) 25 [(.v (.int .i64 f.Period)),(.v (.int .i64 f.Count)),wc,wo]::OO::OC :: .blk (b1+1) 25 [(.v (.int .i64 0)),(.v (.int .i64 0)),.nils,.nils] :: .blk (b1+0) 25 (vs (Form.cs f))::(R++T)))
   (m:=f.Core.length) ⟨0,coreV f,OC,[],rfl,YW _,hC,by unfold coreV;rw [YU],λk w hk=>absurd hk (Nat.not_lt_zero k),λk r _ hr=>by unfold coreV;rw [YI,hr];rfl,⟨rfl,rfl,rfl,rfl,trivial⟩,H⟩ ?_
  rintro m e G ⟨i,ws,OC,R,rfl,hi,hC,hws,hd,ht,he,H⟩;obtain ⟨e,rfl⟩:=he.ex;apply Runs.then;refine Runs.Z9 1 rfl H ?_;intro b4 G H;refine Ops.int (m:=(i:Int)) (m':=(f.Core.length:Int)) (r:=.bool (decide ((i:Int)<(f.Core.length:Int)))) rfl rfl rfl rfl rfl ?_;apply Ops.nil;replace H:=H.all;apply Runs.then;refine Runs.whether (v:=(decide ((i:Int)<(f.Core.length:Int)))) rfl ?_ ?_<;>intro hc2
  ·have hlt:i<f.Core.length:=by have:=of_decide_eq_true hc2;omega
   rcases hC with ⟨_,h0,_⟩|⟨id,rfl,hwl,rfl⟩
   ·omega
   rw [Y05] at hwl;have hr:=ht i f.Core[i] (YA _) (Y3 hlt);apply Runs.skip;apply Runs.then;apply Runs.inBlock;apply Runs.then;refine Runs.Z9 2 rfl H ?_;intro b5 G H;refine Ops.move (v:=(.v (.int .i64 i))) rfl rfl ?_;refine Ops.assign (v:=(.v (.int .i64 i))) rfl rfl ?_;apply Ops.nil;replace H:=H.all;refine Runs.Z22 11 rfl (by kernel_rfl) H ?_;intro b6 G H B6
   refine Ops.ZA (off:=0) (fo:=2) H 0 rfl rfl rfl rfl rfl (λ_=>.inl ⟨B6 0 _ rfl _ rfl,nofun,(λ_=>by kernel_rfl)⟩) rfl ?_
   refine Ops.Z1R (off:=2) (v:=.buf id f.Core.length 1) H 0 rfl rfl rfl rfl rfl (λ_=>.inl ⟨B6 0 _ rfl _ rfl,nofun,(λ_=>by kernel_rfl)⟩) rfl ?_
   refine Ops.move (v:=(.v (.int .i64 i))) rfl rfl ?_;refine Ops.ZA (off:=0) (fo:=2) H 0 rfl rfl rfl rfl rfl (λ_=>.inl ⟨B6 0 _ rfl _ rfl,nofun,(λ_=>by kernel_rfl)⟩) rfl ?_
   refine Ops.Z1R (off:=2) (v:=.buf id f.Core.length 1) H 0 rfl rfl rfl rfl rfl (λ_=>.inl ⟨B6 0 _ rfl _ rfl,nofun,(λ_=>by kernel_rfl)⟩) rfl ?_
   refine Ops.move (v:=(.v (.int .i64 i))) rfl rfl ?_;refine Ops.Z2Z (m:=f.Core.length) (sz:=1) (ver:=f.Core.length) H 2 rfl hwl rfl (Y05 _) rfl (by omega) hlt rfl rfl (λ_=>.inl ⟨B6 2 _ rfl _ rfl,nofun,(λ_=>by kernel_rfl)⟩) rfl ?_
   refine Ops.Z1R (off:=i*1) (v:=.v (.sl (f.Core[i].map Span.cs))) H 2 rfl hwl rfl rfl (by rw [Y05];exact hr) (λ_=>.inl ⟨B6 2 _ rfl _ rfl,nofun,(λ_=>by kernel_rfl)⟩) rfl ?_
   refine Ops.callFM (ys:=[(.v (.sl (f.Core[i].map Span.cs)))]) H rfl (clone47 (s3 _ (Ya hlt))) rfl (YA _) (λ_=>by kernel_rfl) rfl ?_;rintro w _ G ⟨O,rfl,hO1⟩ H
   refine Ops.Z2Z (m:=f.Core.length) (sz:=1) (ver:=f.Core.length) H 3 rfl hwl rfl (Y05 _) rfl (by omega) hlt rfl rfl (λ_=>.inl ⟨B6 2 _ rfl _ rfl,nofun,(λ_=>by kernel_rfl)⟩) rfl ?_
   refine Ops.Z3a (off:=i*1) (v:=w) (ys:=[w]) (m:=1) (cells':=ws.set i w) H 3 rfl hwl rfl rfl hO1.cell rfl rfl (Nat.ble_eq_true_of_le (by omega)) (by rw [Y05];exact splice_set (by omega)) (λ_=>.inl ⟨B6 2 _ rfl _ rfl,(Z1O (by kernel_rfl))⟩) ?_;intro G H
   apply Ops.nil;replace H:=Has.sink [.blk (b2+11) 25 [(.v (.int .i64 f.Period)),(.v (.int .i64 f.Count)),.buf id f.Core.length 1,wo],OO,.blk id 31 (ws.set i w),.blk (b1+1) 25 [(.v (.int .i64 0)),(.v (.int .i64 0)),.nils,.nils],.blk (b1+0) 25 (vs (Form.cs f))] H.all;refine Runs.Z9 2 rfl H ?_;intro b7 G H;refine Ops.int (m:=(i:Int)) (m':=1) (r:=.int .i64 (w64 ((i:Int)+1))) rfl rfl rfl rfl rfl ?_;refine Ops.move (v:=(.v (.int .i64 (w64 ((i:Int)+1))))) rfl rfl ?_;apply Ops.nil;replace H:=H.all;have e1:w64 ((i:Int)+1)=((i+1:Nat):Int):=by rw [Zb (by omega)];rfl
   refine ⟨f.Core.length-(i+1),by omega,i+1,ws.set i w,.blk id 31 (ws.set i w),O::R,rfl,hlt,.inr ⟨id,rfl,by rw [Yn,hwl,Y05],rfl⟩,by rw [Yn];exact hws,λk w' hk hw'=>?_,λk r hk hr'=>?_,⟨rfl,rfl,rfl,by rw [<- e1];rfl,trivial⟩,H⟩
   ·rw [Y0N] at hw'
    by_cases e:i=k
    ·subst e;rw [if_pos rfl,if_pos (by omega)] at hw'
     cases hw';exact hO1.one R
    ·rw [if_neg e] at hw';exact (hd k w' (by omega) hw').push O
   ·rw [List.getElem?_set_ne (by omega)]
    exact ht k r (by omega) hr'
  ·have hge:i=f.Core.length:=by have:=of_decide_eq_false hc2;omega
   apply Runs.exit;refine ⟨rfl,ws,OC,R,hC,hws,λw hw=>?_,⟨rfl,rfl,trivial⟩,H⟩;obtain ⟨k,hk⟩:=YD hw;exact hd k w (by have:=(List.getElem?_eq_some_iff.1 hk).1;omega) hk
 rintro x e G ⟨rfl,ws,OC,R,hC,hws,hR,he,H⟩
 obtain ⟨e,rfl⟩:=he.ex
 -- the rows of the exceptions
 apply Runs.then
 refine Runs.mono (Q:=λx e G=>x = .normal/\∃ gs OO R,Z4V 45 2 wo OO f.Odd.length (gcells gs)/\gs.length=f.Odd.length/\(∀ w∈ws,RowS w R)/\(∀ g∈gs,RowS g.2 R)/\ZC e [(2,(.ptr (b1+1) 4 0)),(3,(.ptr (b2+11) 4 0))] /\
  Hs G (.blk (b2+11) 25 [(.v (.int .i64 f.Period)),(.v (.int .i64 f.Count)),wc,wo]::OO::OC :: .blk (b1+1) 25 [(.v (.int .i64 0)),(.v (.int .i64 0)),.nils,.nils] :: .blk (b1+0) 25 (vs (Form.cs f))::(R++T))) ?_ ?_
 ·apply Runs.then;refine Runs.Z9 4 rfl H ?_;intro b3 G H;refine Ops.ZA (off:=0) (fo:=3) H 0 rfl rfl rfl rfl rfl nofun rfl ?_;refine Ops.Z1R (off:=3) (v:=wo) H 0 rfl rfl rfl rfl rfl nofun rfl ?_;refine Ops.lenO H 1 rfl hO rfl rfl rfl ?_;refine Ops.move (v:=(.v (.int .i64 0))) rfl rfl ?_;apply Ops.nil;replace H:=H.all
  apply Runs.inBlock;refine Runs.loop (λm e G=>∃ (i:Nat) (gs:List (Int×PV)) (OO:Res) (R:List Res),m=f.Odd.length-i/\i<=f.Odd.length/\Z4V 45 2 wo OO f.Odd.length (gcells gs)/\gs.length=f.Odd.length/\(∀ w∈ws,RowS w R)/\(∀ (k:Nat) (g:Int×PV),k<i->gs[k]? = some g->RowS g.2 R)/\(∀ (k:Nat) (g:Granule),i<=k->f.Odd[k]? = some g->gs[k]? = some (g.Index,.v (.sl (g.Ticks.map Span.cs)))) /\
   ZC e [(2,(.ptr (b1+1) 4 0)),(3,(.ptr (b2+11) 4 0)),(36,(.v (.int .i64 f.Odd.length))),(37,(.v (.int .i64 i)))] /\
   Hs G (.blk (b2+11) 25 [(.v (.int .i64 f.Period)),(.v (.int .i64 f.Count)),wc,wo]::OO::OC :: .blk (b1+1) 25 [(.v (.int .i64 0)),(.v (.int .i64 0)),.nils,.nils] :: .blk (b1+0) 25 (vs (Form.cs f))::(R++T)))
   (m:=f.Odd.length) ⟨0,oddV f,OO,R,rfl,YW _,hO,by unfold oddV;rw [YU],hR,λk w hk=>absurd hk (Nat.not_lt_zero k),λk r _ hr=>by unfold oddV;rw [YI,hr];rfl,⟨rfl,rfl,rfl,rfl,trivial⟩,H⟩ ?_
  rintro m e G ⟨i,gs,OO,R,rfl,hi,hO,hgs,hR,hd,ht,he,H⟩;obtain ⟨e,rfl⟩:=he.ex;apply Runs.then;refine Runs.Z9 1 rfl H ?_;intro b4 G H;refine Ops.int (m:=(i:Int)) (m':=(f.Odd.length:Int)) (r:=.bool (decide ((i:Int)<(f.Odd.length:Int)))) rfl rfl rfl rfl rfl ?_;apply Ops.nil;replace H:=H.all;apply Runs.then;refine Runs.whether (v:=(decide ((i:Int)<(f.Odd.length:Int)))) rfl ?_ ?_<;>intro hc2
  ·have hlt:i<f.Odd.length:=by have:=of_decide_eq_true hc2;omega
   rcases hO with ⟨_,h0,_⟩|⟨id,rfl,hwl,rfl⟩
   ·omega
   have hr:=ht i f.Odd[i] (YA _) (Y3 hlt);apply Runs.skip;apply Runs.then;apply Runs.inBlock;apply Runs.then;refine Runs.Z9 2 rfl H ?_;intro b5 G H;refine Ops.move (v:=(.v (.int .i64 i))) rfl rfl ?_;refine Ops.assign (v:=(.v (.int .i64 i))) rfl rfl ?_;apply Ops.nil;replace H:=H.all;refine Runs.Z22 13 rfl (by kernel_rfl) H ?_;intro b6 G H B6
   refine Ops.ZA (off:=0) (fo:=3) H 0 rfl rfl rfl rfl rfl (λ_=>.inl ⟨B6 0 _ rfl _ rfl,nofun,(λ_=>by kernel_rfl)⟩) rfl ?_
   refine Ops.Z1R (off:=3) (v:=.buf id f.Odd.length 2) H 0 rfl rfl rfl rfl rfl (λ_=>.inl ⟨B6 0 _ rfl _ rfl,nofun,(λ_=>by kernel_rfl)⟩) rfl ?_
   refine Ops.move (v:=(.v (.int .i64 i))) rfl rfl ?_;refine Ops.ZA (off:=0) (fo:=3) H 0 rfl rfl rfl rfl rfl (λ_=>.inl ⟨B6 0 _ rfl _ rfl,nofun,(λ_=>by kernel_rfl)⟩) rfl ?_
   refine Ops.Z1R (off:=3) (v:=.buf id f.Odd.length 2) H 0 rfl rfl rfl rfl rfl (λ_=>.inl ⟨B6 0 _ rfl _ rfl,nofun,(λ_=>by kernel_rfl)⟩) rfl ?_
   refine Ops.move (v:=(.v (.int .i64 i))) rfl rfl ?_;refine Ops.Z2Z (m:=f.Odd.length) (sz:=2) (ver:=f.Odd.length*2) H 1 rfl hwl rfl rfl rfl (by omega) hlt rfl rfl (λ_=>.inl ⟨B6 1 _ rfl _ rfl,nofun,(λ_=>by kernel_rfl)⟩) rfl ?_
   refine Ops.ZA (off:=i*2) (fo:=1) H 1 rfl hwl rfl rfl rfl (λ_=>.inl ⟨B6 1 _ rfl _ rfl,nofun,(λ_=>by kernel_rfl)⟩) rfl ?_
   refine Ops.Z1R (off:=i*2+1) (v:=.v (.sl (f.Odd[i].Ticks.map Span.cs))) H 1 rfl hwl rfl rfl (Z4G hr).2 (λ_=>.inl ⟨B6 1 _ rfl _ rfl,nofun,(λ_=>by kernel_rfl)⟩) rfl ?_
   refine Ops.callFM (ys:=[(.v (.sl (f.Odd[i].Ticks.map Span.cs)))]) H rfl (clone47 (s4 _ (Ya hlt))) rfl (YA _) (λ_=>by kernel_rfl) rfl ?_;rintro w _ G ⟨O,rfl,hO1⟩ H
   refine Ops.Z2Z (m:=f.Odd.length) (sz:=2) (ver:=f.Odd.length*2) H 2 rfl hwl rfl rfl rfl (by omega) hlt rfl rfl (λ_=>.inl ⟨B6 1 _ rfl _ rfl,nofun,(λ_=>by kernel_rfl)⟩) rfl ?_
   refine Ops.ZA (off:=i*2) (fo:=1) H 2 rfl hwl rfl rfl rfl (λ_=>.inl ⟨B6 1 _ rfl _ rfl,nofun,(λ_=>by kernel_rfl)⟩) rfl ?_
   refine Ops.Z3a (off:=i*2+1) (v:=w) (ys:=[w]) (m:=1) (cells':=gcells (gs.set i (f.Odd[i].Index,w))) H 2 rfl hwl rfl rfl hO1.cell rfl rfl (Nat.ble_eq_true_of_le (by omega)) (Z6U hr 0 w).2 (λ_=>.inl ⟨B6 1 _ rfl _ rfl,(Z1O (by kernel_rfl))⟩) ?_;intro G H
   apply Ops.nil;replace H:=Has.sink [.blk (b2+11) 25 [(.v (.int .i64 f.Period)),(.v (.int .i64 f.Count)),wc,.buf id f.Odd.length 2],.blk id 45 (gcells (gs.set i (f.Odd[i].Index,w))),OC,.blk (b1+1) 25 [(.v (.int .i64 0)),(.v (.int .i64 0)),.nils,.nils],.blk (b1+0) 25 (vs (Form.cs f))] H.all;refine Runs.Z9 2 rfl H ?_;intro b7 G H;refine Ops.int (m:=(i:Int)) (m':=1) (r:=.int .i64 (w64 ((i:Int)+1))) rfl rfl rfl rfl rfl ?_;refine Ops.move (v:=(.v (.int .i64 (w64 ((i:Int)+1))))) rfl rfl ?_;apply Ops.nil;replace H:=H.all;have e1:w64 ((i:Int)+1)=((i+1:Nat):Int):=by rw [Zb (by omega)];rfl
   refine ⟨f.Odd.length-(i+1),by omega,i+1,gs.set i (f.Odd[i].Index,w),.blk id 45 (gcells (gs.set i (f.Odd[i].Index,w))),O::R,rfl,hlt,.inr ⟨id,rfl,by rw [Z4h,Yn,hgs],rfl⟩,by rw [Yn];exact hgs,λw' hw'=>(hR w' hw').push O,λk w' hk hw'=>?_,λk r hk hr'=>?_,⟨rfl,rfl,rfl,by rw [<- e1];rfl,trivial⟩,H⟩
   ·rw [Y0N] at hw'
    by_cases e:i=k
    ·subst e;rw [if_pos rfl,if_pos (by omega)] at hw'
     cases hw';exact hO1.one R
    ·rw [if_neg e] at hw';exact (hd k w' (by omega) hw').push O
   ·rw [List.getElem?_set_ne (by omega)]
    exact ht k r (by omega) hr'
  ·have hge:i=f.Odd.length:=by have:=of_decide_eq_false hc2;omega
   apply Runs.exit;refine ⟨rfl,gs,OO,R,hO,hgs,hR,λg hg=>?_,⟨rfl,rfl,trivial⟩,H⟩;obtain ⟨k,hk⟩:=YD hg;exact hd k g (by have:=(List.getElem?_eq_some_iff.1 hk).1;omega) hk
 rintro x e G ⟨rfl,gs,OO,R,hO,hgs,hR,hG,he,H⟩
 obtain ⟨e,rfl⟩:=he.ex
 apply Runs.then
 refine Runs.Z9 2 rfl H ?_;intro b8 G H
 refine Ops.loadHA (off:=0) (cs:=[(.v (.int .i64 f.Period)),(.v (.int .i64 f.Count)),wc,wo]) H 0 rfl rfl rfl rfl rfl rfl rfl nofun rfl ?_
 refine Ops.Z3a (off:=0) (cells':=[(.v (.int .i64 f.Period)),(.v (.int .i64 f.Count)),wc,wo]) H 3 rfl rfl rfl rfl rfl rfl rfl rfl rfl nofun ?_;intro G H
 apply Ops.nil
 replace H:=H.all
 apply Runs.ret
 exact ⟨.inr rfl,_,Z15 H (.agg (cs:=[(.v (.int .i64 f.Period)),(.v (.int .i64 f.Count)),wc,wo]) (off:=0) 3 rfl rfl rfl rfl rfl rfl rfl .nil),_,⟨wc,wo,OC,OO,ws,gs,R,rfl,rfl,hC,hO,hws,hgs,hR,hG⟩,(((H.erase 3).erase 3).drop 1).perm (.swap _ _ _)⟩
end Go.Dn

namespace Go.Dn
open Go Go.Proofs
set_option maxRecDepth 100000
set_option maxHeartbeats 4000000
theorem Z3f {f:Form} {r:Bool} (h:Z0H f=some r):Fn CZ 12 [(.agg (vs (Form.cs f)))] (vb r):=lift rfl (Z4L h) rfl rfl
theorem Z1z {r:Bool} (h:Z0W=r):Fn CZ 13 [] (vb r):=lift rfl (Z4M h) rfl rfl
theorem Z3U {f:Form} {r:Form} (h:ZE f=some r):Fn CZ 22 [(.agg (vs (Form.cs f)))] (.agg (vs (Form.cs r))):=lift rfl (Z3c h) rfl rfl
theorem Z2q {a:Form} {b:Form} {r:Bool} (h:ZD a b=some r):Fn CZ 24 [(.agg (vs (Form.cs a))),(.agg (vs (Form.cs b)))] (vb r):=lift rfl (Z3B h) rfl rfl
theorem Z3A {f:Form} {i:Int} {r:Bool} (h:Zf f i=some r):Fn CZ 6 [(.agg (vs (Form.cs f))),(vi i)] (vb r):=by
 refine Fn.go Try.func6 V λG H=>?_;unfold Zf at h;refine .tR 2 V H λb1 G H=>(.bxc (cs:=(vF f)) H V V V λG H=>(.aV V (.na H λH=>(.then (.tR 3 V H λb2 G H=>(.LV (vF f) H 0 V ?_))))));obtain ⟨x1,q1,h⟩:=bs h;refine .cV (Z3f q1) V (.tV V (.na H λH=>?_));refine .wh h V ?_ ?_<;>intro h
 ·refine .tR 2 V H λb3 G H=>(.cV (Z1z V) V (.aV V (.na H λH=>(.ret ?_))));obtain rfl:=sj h;exact Ends.eR V
 refine .skip (.tR 4 V H λb4 G H=>(.LV (vF f) H 0 V ?_));obtain ⟨x2,q2,h⟩:=bs h;refine .cV (Z3U q2) V (.alc (cs:=[(vi 0),(vi 0),.nils,.nils]) H V V λG H=>(.sV (vF x2) H 0 V λG H=>(.na H λH=>(.tR 8 V H λb5 G H=>(.LV (vF f) H 1 V (.mV V ?_))))));obtain ⟨x3,q3,h⟩:=bs h;refine .callFO (ys:=[(.agg (vs (Form.cs f))),(vi i)]) H rfl (gran_Get_fnZ q3) nofun rfl ?_;rintro _ _ G ⟨w1,rfl,rfl⟩ H;refine .m1 (.tup [w1,(vi x3.2)]) V V (.xV V (.xV V (.a1 w1 V V (.aV V (.na H λH=>(.then (.tR 3 V H λb6 G H=>(.m1 w1 V V ?_))))))));refine .lenSt (c:=Span.cs) (xs:=x3.1) H 0 V V V nofun V (.mV V (.na H λH=>(.inBlock ?_)));obtain ⟨y1,hj1,h⟩:=bs h;obtain ⟨n1,hj1⟩:=ZL.1 hj1;refine .mono (Runs.loopO hj1 (λs1 e G=>∃ (w4:PV),ZC e [(2,(.ptr (b1+0) 4 0)),(5,(.ptr (b4+2) 4 0)),(6,w4),(27,(vi (x3.1.length:Int))),(28,(vi s1.1))]/\Hs G [.sl w4 43 2 (s1.2.map Span.cs) true,.blk (b4+2) 25 (vF x2),.blk (b1+0) 25 (vF f)]) (λy1 x e G=>x = .exit 0/\ZC e [(2,(.ptr (b1+0) 4 0)),(5,(.ptr (b4+2) 4 0))]/\Hs G [.blk (b4+2) 25 (vF x2),.blk (b1+0) 25 (vF f)]) ⟨w1,EI V,H⟩ ?_) ?_
 ·intro s1 e G hI z h;obtain ⟨w4,he,H⟩:=hI;obtain ⟨e,rfl⟩:=he.ex;unfold Zf.s0 at h;refine .tR 1 V H λb7 G H=>(.iV V (.na H λH=>(.then ?_)));refine .wh h V ?_ ?_<;>intro h
  ·refine .skip (.then (.inBlock (.tR 2 V H λb8 G H=>(.mV V (.aV V (.na H λH=>(.Z9 9 V H λb9 G H=>(.m1 w4 V V ?_))))))));refine .mV V ?_;obtain ⟨x4,q4,h⟩:=bs h;refine .Z3V H 0 V V V (at?_map q4) V V nofun V ?_;intro id1 hv1;subst hv1;refine .Z1i (id:=id1) H 0 V V (by simp) V V V nofun V ?_;refine .loadS (id:=id1) (j:=0) (w:=(.int .i64 x4.From)) H 0 V V (by simp) (at?_map q4) V (by simp) V V V nofun V ?_;refine .iV V ?_;obtain ⟨x5,q5,h⟩:=bs h;refine .Z3V H 0 V V V (at?_map q5) V V nofun V ?_;intro id2 hv2;refine .Z1i (id:=id2) H 0 V hv2 (by simp) V V V nofun V (.storeSt (id:=id2) (j:=0) (zs:=[(.int .i64 (w64 (x4.From-1)))]) (u:=x5) (u':=(Span.mk (w64 (x4.From-1)) x5.To)) H 0 V hv2 (by simp) q5 V (by simp) V V V V V V nofun λG H=>(.na H λH=>(.Z9 2 V H λb10 G H=>(.iV V (.mV V (.na H λH=>?_))))));obtain rfl:=sj h;exact ⟨V,(.buf id1 (s1.2.map Span.cs).length 2),EI V,H⟩
  refine .exit ?_;obtain rfl:=sj h;exact ⟨nofun,⟨V,EI V,(H.erase 0)⟩⟩
 ·rintro x e G ⟨rfl,he,H⟩;obtain ⟨e,rfl⟩:=he.ex;obtain ⟨u1,q6,h⟩:=bs h;refine .then (.Z9 4 V H λzbC G H=>(.LV (vF f) H 1 V ?_));refine .callFO (ys:=[.agg (vs (Form.cs f))]) H rfl (copy_open q6) nofun rfl ?_;rintro _ _ G ⟨wc,wo,OC,OO,ws,gs,R,rfl,rfl,hC,hO,hws,hgs,hR,hG⟩ H;refine .alc (cs:=[(vi 0),(vi 0),.nils,.nils]) H V V λG H=>(.sV [(vi f.Period),(vi f.Count),wc,wo] H 0 V λG H=>(.nil ?_));replace H:Hs G (.blk (zbC+2) 25 [(vi f.Period),(vi f.Count),wc,wo]::OC::OO::(R++([.blk (b4+2) 25 (vF x2),.blk (b1+0) 25 (vF f)] : List Res))):=H.all;obtain ⟨z1,z2,_,_⟩:=ownF q6;have zn1:f.Core.length<10000000000000:=by unfold room at z1;omega
  have zn2:f.Odd.length<10000000000000:=by unfold room at z2;omega
  refine .then ?_;refine .mono (Q:=λx e G=>x = .normal/\∃ R,(∀ w∈ws,RowS w R)/\(∀ g∈gs,RowS g.2 R)/\ZC e [(9,(.ptr (zbC+2) 4 0)),(2,(.ptr (b1+0) 4 0)),(5,(.ptr (b4+2) 4 0))]/\Hs G (.blk (zbC+2) 25 [(vi f.Period),(vi f.Count),wc,wo]::OC::OO::(R++([.blk (b4+2) 25 (vF x2),.blk (b1+0) 25 (vF f)] : List Res)))) ?_ ?_
  ·refine .then (.Z9 4 V H λzb3 G H=>(.fV H 0 V (.lV H 0 V (.lenO H 1 V hC V V V (.mV V (.na H λH=>(.inBlock ?_)))))));refine .loop (λm e G=>∃ (zi:Nat) (R:List Res),m=f.Core.length-zi/\zi<=f.Core.length/\(∀ w∈ws,RowS w R)/\(∀ g∈gs,RowS g.2 R)/\ZC e [(9,(.ptr (zbC+2) 4 0)),(44,(vi f.Core.length)),(45,(vi zi)),(2,(.ptr (b1+0) 4 0)),(5,(.ptr (b4+2) 4 0))]/\Hs G (.blk (zbC+2) 25 [(vi f.Period),(vi f.Count),wc,wo]::OC::OO::(R++([.blk (b4+2) 25 (vF x2),.blk (b1+0) 25 (vF f)] : List Res))))
    (m:=f.Core.length) ⟨0,R,rfl,YW _,hR,hG,EI rfl,H⟩ ?_
   rintro m e G ⟨zi,R,rfl,hi,hR,hG,he,H⟩;obtain ⟨e,rfl⟩:=he.ex;refine .then (.Z9 1 V H λzb4 G H=>(.iV V (.na H λH=>(.then ?_))));refine .whether (v:=(decide ((zi:Int)<(f.Core.length:Int)))) V ?_ ?_<;>intro hc9
   ·have hlt:zi<f.Core.length:=by have:=of_decide_eq_true hc9;omega
    rcases hC with ⟨_,h0,_⟩|⟨zid,rfl,hwl,rfl⟩
    ·omega
    rw [Y05] at hwl;have hiw:zi<ws.length:=by omega
    have hrow:=hR _ (Ya hiw);obtain ⟨rl,hrl⟩:=hrow.len;generalize hrw:ws[zi]=row at hrow hrl;have hget:ws[zi]? = some row:=by rw [Y3 hiw,hrw]
    have hmem:row∈ws:=hrw▸Ya hiw;refine .skip (.then (.inBlock (.then (.Z9 2 V H λzb5 G H=>(.mV V (.aV V (.na H λH=>(.then ?_))))))));refine .Z9 7 V H λzb6 G H=>(.fV H 0 V (.lV H 0 V (.mV V (.Z2Z (m:=f.Core.length) (sz:=1) (ver:=f.Core.length) H 1 V hwl V (Y05 _) V (by omega) hlt V V nofun V (.Z1R (off:=zi*1) (v:=row) H 1 V hwl V V (by rw [Y05];exact hget) nofun V (.lenRow H hrow hrl V V V (.mV V (.na H λH=>?_))))))));refine .mono (Q:=λx e G=>x = .normal/\∃ R,(∀ w∈ws,RowS w R)/\(∀ g∈gs,RowS g.2 R)/\ZC e [(9,(.ptr (zbC+2) 4 0)),(44,(vi f.Core.length)),(45,(vi zi)),(2,(.ptr (b1+0) 4 0)),(5,(.ptr (b4+2) 4 0))]/\Hs G (.blk (zbC+2) 25 [(vi f.Period),(vi f.Count),.buf zid f.Core.length 1,wo] :: .blk zid 31 ws::OO::(R++([.blk (b4+2) 25 (vF x2),.blk (b1+0) 25 (vF f)] : List Res)))) ?_ ?_
    ·refine .inBlock ?_;refine .loop (λm e G=>∃ (zn:Nat) (R:List Res),m=rl-zn/\zn<=rl/\(∀ w∈ws,RowS w R)/\(∀ g∈gs,RowS g.2 R)/\ZC e [(9,(.ptr (zbC+2) 4 0)),(10,(vi zi)),(44,(vi f.Core.length)),(45,(vi zi)),(53,(vi rl)),(54,(vi zn)),(2,(.ptr (b1+0) 4 0)),(5,(.ptr (b4+2) 4 0))]/\Hs G (.blk (zbC+2) 25 [(vi f.Period),(vi f.Count),.buf zid f.Core.length 1,wo] :: .blk zid 31 ws::OO::(R++([.blk (b4+2) 25 (vF x2),.blk (b1+0) 25 (vF f)] : List Res))))
      (m:=rl) ⟨0,R,rfl,YW _,hR,hG,EI rfl,H⟩ ?_
     rintro m e G ⟨zn,R,rfl,hn,hR,hG,he,H⟩;obtain ⟨e,rfl⟩:=he.ex;refine .then (.Z9 1 V H λzb7 G H=>(.iV V (.na H λH=>(.then ?_))));refine .whether (v:=(decide ((zn:Int)<(rl:Int)))) V ?_ ?_<;>intro hc8
     ·have hnl:zn<rl:=by have:=of_decide_eq_true hc8;omega
      obtain ⟨zj,ys,hj,hys,hrl3,hbd⟩:=(hR row hmem).at hrl hnl;have hu:at? ys (zn:Int)=some ys[zn]:=at?_nat (by omega);have hjl:=(List.getElem?_eq_some_iff.1 hj).1;refine .skip (.then (.inBlock (.then (.Z9 2 V H λzb8 G H=>(.mV V (.aV V (.na H λH=>(.Z9 13 V H λzb9 G H=>?_))))))));refine .fV H 0 V (.lV H 0 V (.mV V (.Z2Z (m:=f.Core.length) (sz:=1) (ver:=f.Core.length) H 1 V hwl V (Y05 _) V (by omega) hlt V V nofun V (.Z1R (off:=zi*1) (v:=row) H 1 V hwl V V (by rw [Y05];exact hget) nofun V (.mV V ?_)))));refine .Z3V H (3+zj) (get3 hj) V V (at?_map hu) V V nofun V ?_;intro id1 hv1;refine .Z1i (id:=id1) H (3+zj) (get3 hj) hv1 (by simp) V V V nofun V ?_;refine .loadS (id:=id1) (j:=1) (w:=.int .i64 ys[zn].To) H (3+zj) (get3 hj) hv1 (by simp) (at?_map hu) V (by simp) V V V nofun V ?_;refine .iV V ?_;refine .Z3V H (3+zj) (get3 hj) V V (at?_map hu) V V nofun V ?_;intro id2 hv2;refine .Z1i (id:=id2) H (3+zj) (get3 hj) hv2 (by simp) V V V nofun V (.storeSt (id:=id2) (j:=1) (zs:=[.int .i64 (w64 (ys[zn].To+1))]) (u:=ys[zn]) (u':=⟨ys[zn].From,w64 (ys[zn].To+1)⟩) H (3+zj) (get3 hj) hv2 (by simp) hu V (by simp) V V V V V V nofun λG H=>?_);rw [set3 hjl] at H;refine .na H λH=>(.Z9 2 V H λzb10 G H=>(.iV V (.mV V (.na H λH=>?_))));have e1:w64 ((zn:Int)+1)=((zn+1:Nat):Int):=by rw [Zb (by omega)];rfl
      exact ⟨rl-(zn+1),by omega,zn+1,_,V,hnl,λw hw=>(hR w hw).set hj (Yn ..),λg hg=>(hG g hg).set hj (Yn ..),⟨V,V,V,V,V,by rw [<- e1];rfl,V,V,U⟩,H⟩
     ·refine .exit ?_;exact ⟨V,R,hR,hG,EI V,H⟩
    rintro x e G ⟨rfl,R,hR,hG,he,H⟩;obtain ⟨e,rfl⟩:=he.ex;refine .Z9 2 V H λzb11 G H=>(.iV V (.mV V (.na H λH=>?_)));have e1:w64 ((zi:Int)+1)=((zi+1:Nat):Int):=by rw [Zb (by omega)];rfl
    exact ⟨f.Core.length-(zi+1),by omega,zi+1,R,V,hlt,hR,hG,⟨V,V,by rw [<- e1];rfl,V,V,U⟩,H⟩
   ·refine .exit ?_;exact ⟨V,R,hR,hG,EI V,H⟩
  rintro x e G ⟨rfl,R,_,hG,he,H⟩;obtain ⟨e,rfl⟩:=he.ex;refine .then ?_;refine .mono (Q:=λx e G=>x = .normal/\∃ OO R,ZC e [(2,(.ptr (b1+0) 4 0)),(5,(.ptr (b4+2) 4 0))]/\Hs G (.blk (zbC+2) 25 [(vi f.Period),(vi f.Count),wc,wo]::OC::OO::(R++([.blk (b4+2) 25 (vF x2),.blk (b1+0) 25 (vF f)] : List Res)))) ?_ ?_
  ·refine .then (.Z9 4 V H λzb3 G H=>(.fV H 0 V (.lV H 0 V (.lenO H 2 V hO V V V (.mV V (.na H λH=>(.inBlock ?_)))))));refine .loop (λm e G=>∃ (zi:Nat) (gs:List (Int×PV)) (OO:Res) (R:List Res),m=f.Odd.length-zi/\zi<=f.Odd.length/\Z4V 45 2 wo OO f.Odd.length (gcells gs)/\gs.length=f.Odd.length/\(∀ g∈gs,RowS g.2 R)/\ZC e [(9,(.ptr (zbC+2) 4 0)),(73,(vi f.Odd.length)),(74,(vi zi)),(2,(.ptr (b1+0) 4 0)),(5,(.ptr (b4+2) 4 0))]/\Hs G (.blk (zbC+2) 25 [(vi f.Period),(vi f.Count),wc,wo]::OC::OO::(R++([.blk (b4+2) 25 (vF x2),.blk (b1+0) 25 (vF f)] : List Res))))
    (m:=f.Odd.length) ⟨0,gs,OO,R,rfl,YW _,hO,hgs,hG,EI rfl,H⟩ ?_
   rintro m e G ⟨zi,gs,OO,R,rfl,hi,hO,hgs,hG,he,H⟩;obtain ⟨e,rfl⟩:=he.ex;refine .then (.Z9 1 V H λzb4 G H=>(.iV V (.na H λH=>(.then ?_))));refine .whether (v:=(decide ((zi:Int)<(f.Odd.length:Int)))) V ?_ ?_<;>intro hc9
   ·have hlt:zi<f.Odd.length:=by have:=of_decide_eq_true hc9;omega
    rcases hO with ⟨_,h0,_⟩|⟨zid,rfl,hwl,rfl⟩
    ·omega
    have hiw:zi<gs.length:=by omega
    have hrow:=hG _ (Ya hiw);obtain ⟨rl,hrl⟩:=hrow.len;have hget:=Y3 hiw;generalize hrw:gs[zi]=g at hrow hrl hget;have hg2:(gs.set zi (w64 (g.1+1),g.2))[zi]? = some (w64 (g.1+1),g.2):=List.getElem?_set_self hiw;have hl2:(gcells (gs.set zi (w64 (g.1+1),g.2))).length=f.Odd.length*2:=by rw [Z4h,Yn,hgs]
    have hG2:∀ R,(∀ g∈gs,RowS g.2 R)->∀ g'∈gs.set zi (w64 (g.1+1),g.2),RowS g'.2 R:=λR hR g' hg'=>by
     rcases List.mem_or_eq_of_mem_set hg' with h1|rfl
     ·exact hR g' h1
     ·exact hR g (hrw▸Ya hiw)
    have hG:=hG2 R hG;have hmem:(w64 (g.1+1),g.2)∈gs.set zi (w64 (g.1+1),g.2):=Y6 hg2;refine .skip (.then (.inBlock (.then (.Z9 2 V H λzb5 G H=>(.mV V (.aV V (.na H λH=>(.then ?_))))))));refine .Z9 10 V H λzb12 G H=>(.fV H 0 V (.lV H 0 V (.mV V (.Z2Z (m:=f.Odd.length) (sz:=2) (ver:=f.Odd.length*2) H 2 V hwl V V V (by omega) hlt V V nofun V (.ZA (off:=zi*2) H 2 V hwl V V V nofun V (.Z1R (off:=zi*2) (v:=.v (.int .i64 g.1)) H 2 V hwl V V (Z4G hget).1 nofun V (.iV V (.Z2Z (m:=f.Odd.length) (sz:=2) (ver:=f.Odd.length*2) H 2 V hwl V V V (by omega) hlt V V nofun V ?_))))))));refine .ZA (off:=zi*2) H 2 V hwl V V V nofun V (.Z3a (off:=zi*2) (v:=.v (.int .i64 (w64 (g.1+1)))) (ys:=[.v (.int .i64 (w64 (g.1+1)))]) (m:=1) (cells':=gcells (gs.set zi (w64 (g.1+1),g.2))) H 2 V hwl V V V V V (Nat.ble_eq_true_of_le (by omega)) (Z6U hget _ .nils).1 nofun λG H=>(.na H λH=>(.then (.Z9 8 V H λzb6 G H=>(.fV H 0 V (.lV H 0 V (.mV V (.Z2Z (m:=f.Odd.length) (sz:=2) (ver:=f.Odd.length*2) H 2 V hl2 V V V (by omega) hlt V V nofun V ?_))))))));refine .ZA (off:=zi*2) H 2 V hl2 V V V nofun V (.Z1R (off:=zi*2+1) (v:=g.2) H 2 V hl2 V V (Z4G hg2).2 nofun V (.lenRow H hrow hrl V V V (.mV V (.na H λH=>?_))));refine .mono (Q:=λx e G=>x = .normal/\∃ R,(∀ g'∈gs.set zi (w64 (g.1+1),g.2),RowS g'.2 R)/\ZC e [(9,(.ptr (zbC+2) 4 0)),(73,(vi f.Odd.length)),(74,(vi zi)),(2,(.ptr (b1+0) 4 0)),(5,(.ptr (b4+2) 4 0))]/\Hs G (.blk (zbC+2) 25 [(vi f.Period),(vi f.Count),wc,.buf zid f.Odd.length 2]::OC :: .blk zid 45 (gcells (gs.set zi (w64 (g.1+1),g.2)))::(R++([.blk (b4+2) 25 (vF x2),.blk (b1+0) 25 (vF f)] : List Res)))) ?_ ?_
    ·refine .inBlock ?_;refine .loop (λm e G=>∃ (zn:Nat) (R:List Res),m=rl-zn/\zn<=rl/\(∀ g'∈gs.set zi (w64 (g.1+1),g.2),RowS g'.2 R)/\ZC e [(9,(.ptr (zbC+2) 4 0)),(12,(vi zi)),(73,(vi f.Odd.length)),(74,(vi zi)),(92,(vi rl)),(93,(vi zn)),(2,(.ptr (b1+0) 4 0)),(5,(.ptr (b4+2) 4 0))]/\Hs G (.blk (zbC+2) 25 [(vi f.Period),(vi f.Count),wc,.buf zid f.Odd.length 2]::OC :: .blk zid 45 (gcells (gs.set zi (w64 (g.1+1),g.2)))::(R++([.blk (b4+2) 25 (vF x2),.blk (b1+0) 25 (vF f)] : List Res))))
      (m:=rl) ⟨0,R,rfl,YW _,hG,EI rfl,H⟩ ?_
     rintro m e G ⟨zn,R,rfl,hn,hG,he,H⟩;obtain ⟨e,rfl⟩:=he.ex;refine .then (.Z9 1 V H λzb7 G H=>(.iV V (.na H λH=>(.then ?_))));refine .whether (v:=(decide ((zn:Int)<(rl:Int)))) V ?_ ?_<;>intro hc8
     ·have hnl:zn<rl:=by have:=of_decide_eq_true hc8;omega
      obtain ⟨zj,ys,hj,hys,hrl3,hbd⟩:=(hG _ hmem).at hrl hnl;have hu:at? ys (zn:Int)=some ys[zn]:=at?_nat (by omega);have hjl:=(List.getElem?_eq_some_iff.1 hj).1;refine .skip (.then (.inBlock (.then (.Z9 2 V H λzb8 G H=>(.mV V (.aV V (.na H λH=>(.Z9 14 V H λzb9 G H=>?_))))))));refine .fV H 0 V (.lV H 0 V (.mV V (.Z2Z (m:=f.Odd.length) (sz:=2) (ver:=f.Odd.length*2) H 2 V hl2 V V V (by omega) hlt V V nofun V (.ZA (off:=zi*2) H 2 V hl2 V V V nofun V (.Z1R (off:=zi*2+1) (v:=g.2) H 2 V hl2 V V (Z4G hg2).2 nofun V (.mV V ?_))))));refine .Z3V H (3+zj) (get3 hj) V V (at?_map hu) V V nofun V ?_;intro id1 hv1;refine .Z1i (id:=id1) H (3+zj) (get3 hj) hv1 (by simp) V V V nofun V ?_;refine .loadS (id:=id1) (j:=1) (w:=.int .i64 ys[zn].To) H (3+zj) (get3 hj) hv1 (by simp) (at?_map hu) V (by simp) V V V nofun V ?_;refine .iV V ?_;refine .Z3V H (3+zj) (get3 hj) V V (at?_map hu) V V nofun V ?_;intro id2 hv2;refine .Z1i (id:=id2) H (3+zj) (get3 hj) hv2 (by simp) V V V nofun V (.storeSt (id:=id2) (j:=1) (zs:=[.int .i64 (w64 (ys[zn].To+1))]) (u:=ys[zn]) (u':=⟨ys[zn].From,w64 (ys[zn].To+1)⟩) H (3+zj) (get3 hj) hv2 (by simp) hu V (by simp) V V V V V V nofun λG H=>?_);rw [set3 hjl] at H;refine .na H λH=>(.Z9 2 V H λzb10 G H=>(.iV V (.mV V (.na H λH=>?_))));have e1:w64 ((zn:Int)+1)=((zn+1:Nat):Int):=by rw [Zb (by omega)];rfl
      exact ⟨rl-(zn+1),by omega,zn+1,_,V,hnl,λg hg=>(hG g hg).set hj (Yn ..),⟨V,V,V,V,V,by rw [<- e1];rfl,V,V,U⟩,H⟩
     ·refine .exit ?_;exact ⟨V,R,hG,EI V,H⟩
    rintro x e G ⟨rfl,R,hG,he,H⟩;obtain ⟨e,rfl⟩:=he.ex;refine .Z9 2 V H λzb11 G H=>(.iV V (.mV V (.na H λH=>?_)));have e1:w64 ((zi:Int)+1)=((zi+1:Nat):Int):=by rw [Zb (by omega)];rfl
    exact ⟨f.Odd.length-(zi+1),by omega,zi+1,_,_,R,V,hlt,.inr ⟨zid,V,hl2,V⟩,by rw [Yn];exact hgs,hG,⟨V,V,by rw [<- e1];rfl,V,V,U⟩,H⟩
   ·refine .exit ?_;exact ⟨V,OO,R,EI V,H⟩
  rintro x e G ⟨rfl,OO,R,he,H⟩;obtain ⟨e,rfl⟩:=he.ex;have H2:Hs G (R++([.blk (b4+2) 25 (vF x2),.blk (b1+0) 25 (vF f)] : List Res)):=H.drop 3;have H:Hs G ([.blk (b4+2) 25 (vF x2),.blk (b1+0) 25 (vF f)] : List Res):=by have H3:=H2.drop R.length;rw [List.drop_left] at H3;exact H3
  refine .tR 7 V H λb11 G H=>(.LV (vF f) H 1 V (.LV (vF x2) H 0 V ?_));obtain ⟨x6,q7,h⟩:=bs h;refine .cV (Z2q q7) V (.mV V ?_);refine .md H 2 [(116,(vb (x6&&Z0W)))] [] V ?_ λe G H=>?_
  ·refine .split V V ?_ ?_<;>intro hc3
   ·refine .cV (Z1z V) V (.kT V (.nil ?_));exact ⟨⟨Z3Z hc3,U⟩,((H.erase 1).erase 0).wk (by omega)⟩
   ·refine .ps 1 V (.kF V (.nil ?_));exact ⟨⟨Z3w hc3,U⟩,((H.erase 1).erase 0).wk (by omega)⟩
  refine .aV V (.na H λH=>(.ret ?_));obtain rfl:=sj h;exact Ends.eR V
end Go.Dn

namespace Go.Dn
open Go
def In64 (a:Int):Prop:=-9223372036854775808<=a/\a<=9223372036854775807
def Z4S (a:Int):Prop:=0<=a/\a<=18446744073709551615
def fitS (a:Int):Int×Int:=if -9223372036854775808<=a/\a<=9223372036854775807 then (a,0) else (0,10)
theorem fitS_of {a:Int} (h:In64 a):fitS a=(a,0):=if_pos h
theorem fitS_not {a:Int} (h:¬ In64 a):fitS a=(0,10):=if_neg h
theorem fit_or (x:Int):(In64 x/\fitS x=(x,0))\/(¬ In64 x/\fitS x=(0,10)):=by
 by_cases h:In64 x
 ·exact .inl ⟨h,fitS_of h⟩
 ·exact .inr ⟨h,fitS_not h⟩
theorem and32 (x:Int) (h:Z4S x):(((BitVec.ofInt 64 x &&& BitVec.ofInt 64 4294967295).toNat:Nat):Int)=x % 4294967296:=by
 obtain ⟨n,rfl⟩:=Int.eq_ofNat_of_zero_le h.1
 have hn:n<2 ^ 64:=by have:=h.2;omega
 have h1:(BitVec.ofInt 64 (n:Int)).toNat=n:=by simp [BitVec.toNat_ofInt];omega
 have h2:(BitVec.ofInt 64 4294967295).toNat=2 ^ 32-1:=by decide
 rw [BitVec.toNat_and,h1,h2,Nat.and_two_pow_sub_one_eq_mod]
 omega
theorem mul64_fact {x y:Int} (hx:Z4S x) (hy:Z4S y) :
  (x / 4294967296*(y / 4294967296)+(x / 4294967296*(y % 4294967296)+x % 4294967296*(y % 4294967296) / 4294967296) / 4294967296 +
   ((x / 4294967296*(y % 4294967296)+x % 4294967296*(y % 4294967296) / 4294967296) % 4294967296+x % 4294967296*(y / 4294967296)) / 4294967296)=x*y / 18446744073709551616 /\
  0<=x % 4294967296*(y % 4294967296)/\x % 4294967296*(y % 4294967296)<=18446744065119617025 /\
  0<=x / 4294967296*(y % 4294967296)/\x / 4294967296*(y % 4294967296)<=18446744065119617025 /\
  0<=x % 4294967296*(y / 4294967296)/\x % 4294967296*(y / 4294967296)<=18446744065119617025 /\
  0<=x / 4294967296*(y / 4294967296)/\x / 4294967296*(y / 4294967296)<=18446744065119617025:=by
 have b:∀ {u v:Int},0<=u->u<=4294967295->0<=v->v<=4294967295->0<=u*v/\u*v<=18446744065119617025:=by
  intro u v h1 h2 h3 h4;exact ⟨Int.mul_nonneg h1 h3,Int.le_trans (Int.mul_le_mul h2 h4 h3 (by omega)) (by decide)⟩
 obtain ⟨hx1,hx2⟩:=hx
 obtain ⟨hy1,hy2⟩:=hy
 obtain ⟨a1,a2⟩:=b (u:=x % 4294967296) (v:=y % 4294967296) (by omega) (by omega) (by omega) (by omega)
 obtain ⟨b1,b2⟩:=b (u:=x / 4294967296) (v:=y % 4294967296) (by omega) (by omega) (by omega) (by omega)
 obtain ⟨c1,c2⟩:=b (u:=x % 4294967296) (v:=y / 4294967296) (by omega) (by omega) (by omega) (by omega)
 obtain ⟨d1,d2⟩:=b (u:=x / 4294967296) (v:=y / 4294967296) (by omega) (by omega) (by omega) (by omega)
 refine ⟨?_,a1,a2,b1,b2,c1,c2,d1,d2⟩
 have e:x*y=x / 4294967296*(y / 4294967296)*18446744073709551616+(x / 4294967296*(y % 4294967296)+x % 4294967296*(y / 4294967296))*4294967296+x % 4294967296*(y % 4294967296):=by
  have ex:x=x / 4294967296*4294967296+x % 4294967296:=by omega
  have ey:y=y / 4294967296*4294967296+y % 4294967296:=by omega
  clear a1 a2 b1 b2 c1 c2 d1 d2 b hx1 hx2 hy1 hy2
  generalize x / 4294967296=x1 at *
  generalize x % 4294967296=x0 at *
  generalize y / 4294967296=y1 at *
  generalize y % 4294967296=y0 at *
  subst ex ey;simp only [Int.add_mul,Int.mul_add];have h1:x1*4294967296*(y1*4294967296)=x1*y1*18446744073709551616:=by
   rw [Y0T,Int.mul_comm 4294967296,Y0T y1,<- Y0T]
   rfl
  have h2:x1*4294967296*y0=x1*y0*4294967296:=by rw [Y0T,Int.mul_comm 4294967296,<- Y0T]
  have h3:x0*(y1*4294967296)=x0*y1*4294967296:=by rw [<- Y0T]
  rw [h1,h2,h3];omega
 rw [e]
 generalize x / 4294967296*(y / 4294967296)=d at *
 generalize x / 4294967296*(y % 4294967296)=b' at *
 generalize x % 4294967296*(y / 4294967296)=c at *
 generalize x % 4294967296*(y % 4294967296)=a at *
 omega
theorem Z66 {a b:Int} (ha:In64 a) (hb:In64 b):Z4 a b=fitS (a+b):=by
 unfold In64 at ha hb
 unfold Z4 fitS w64
 rw [Z2v]
 cases h:((decide ((a+b+9223372036854775808) % 18446744073709551616-9223372036854775808>a) != decide (b>0))&&b != 0)
 ·rw [cond_false];simp only [Bool.and_eq_false_iff,bne_eq_false_iff_eq,decide_eq_decide] at h
  split<;>simp only [Y4,and_true]<;>omega
 ·rw [cond_true];simp only [Y8,bne_iff_ne,ne_eq,decide_eq_decide] at h
  split<;>simp only [Y4]<;>omega
theorem Z55 {a:Int} (h:In64 a):Z0B a=a.natAbs:=by
 unfold In64 at h
 unfold Z0B
 rw [pickB]
 simp only [decide_eq_true_eq,Z45]
 split<;>omega
theorem inU_abs {a:Int} (h:In64 a):Z4S a.natAbs:=by unfold In64 at h;unfold Z4S;omega
theorem natAbs_prod (a b:Int):(a.natAbs:Int)*b.natAbs=(a*b).natAbs:=by rw [Int.natAbs_mul];simp
theorem mul64_eq {x y:Int} (hx:Z4S x) (hy:Z4S y):Zu x y=(x*y / 18446744073709551616,x*y % 18446744073709551616):=by
 unfold Zu
 have hb:∀ z:Int,z.fdiv (2 ^ 32)=z / 4294967296:=λz=>Y0P z (by decide)
 have hm:(IntKind.u64.bits)=64:=rfl
 obtain ⟨h1,h2,h3,h4,h5,h6,h7,h8,h9⟩:=mul64_fact hx hy
 have hw:∀ z:Int,0<=z->z<=18446744073709551615->IntKind.u64.wrap z=z:=λz q1 q2=>by rw [Z45];omega
 simp only [hb,iAnd]
 rw [hm,and32 x hx,and32 y hy]
 have x0:0<=x % 4294967296/\x % 4294967296<4294967296:=by omega
 have y0:0<=y % 4294967296/\y % 4294967296<4294967296:=by omega
 rw [hw (x % 4294967296) (by omega) (by omega),hw (y % 4294967296) (by omega) (by omega),hw _ h2 (by omega),hw _ h4 (by omega),hw _ h6 (by omega),hw _ h8 (by omega)]
 rw [hw (x / 4294967296*(y % 4294967296)+x % 4294967296*(y % 4294967296) / 4294967296) (by omega) (by omega)]
 rw [and32 _ ⟨by omega,by omega⟩]
 have t0:0<=(x / 4294967296*(y % 4294967296)+x % 4294967296*(y % 4294967296) / 4294967296) % 4294967296/\(x / 4294967296*(y % 4294967296)+x % 4294967296*(y % 4294967296) / 4294967296) % 4294967296<4294967296:=by omega
 rw [hw ((x / 4294967296*(y % 4294967296)+x % 4294967296*(y % 4294967296) / 4294967296) % 4294967296) (by omega) (by omega)]
 rw [hw ((x / 4294967296*(y % 4294967296)+x % 4294967296*(y % 4294967296) / 4294967296) % 4294967296+x % 4294967296*(y / 4294967296)) (by omega) (by omega)]
 rw [hw (x / 4294967296*(y / 4294967296)+(x / 4294967296*(y % 4294967296)+x % 4294967296*(y % 4294967296) / 4294967296) / 4294967296) (by omega) (by omega)]
 rw [hw _ (by omega) (by omega),h1,Z45]
theorem Z6T {n:Int} (m:Bool) (h:Z4S n):Z1D n m=fitS (if m then -n else n):=by
 unfold Z4S at h
 unfold Z1D fitS w64
 rw [pickB,pickB,Z45,Z2v,Z2v]
 cases m<;>simp only [Bool.true_and,Y0E,Y0K,Y0Y,decide_eq_true_eq,YB,if_false,if_true]
 ·split
  ·rw [if_pos (by omega)];simp only [Y4,and_true];omega
  ·rw [if_neg (by omega)]
 ·split
  ·rw [if_pos (by omega)];simp only [Y4,and_true];omega
  ·rw [if_neg (by omega)]
theorem safe_Mul_eq {a b:Int} (ha:In64 a) (hb:In64 b):Z1t a b=fitS (a*b):=by
 unfold Z1t
 rw [Z55 ha,Z55 hb,mul64_eq (inU_abs ha) (inU_abs hb),pickB]
 simp only [natAbs_prod]
 rw [Z6T _ (by unfold Z4S;omega)]
 by_cases h:((a*b).natAbs:Int) / 18446744073709551616=0
 ·rw [if_neg (by simp [h])]
  have e:((a*b).natAbs:Int) % 18446744073709551616=(a*b).natAbs:=by omega
  rw [e];show fitS _=_;refine congrArg fitS ?_
  by_cases h1:a<0<;>by_cases h2:b<0<;>simp only [h1,h2,decide_true,decide_false]
  ·have:=Int.mul_nonneg_of_nonpos_of_nonpos (Y0Z h1) (Y0Z h2)
   simp;omega
  ·have:=Int.mul_nonpos_of_nonpos_of_nonneg (Y0Z h1) (Int.not_lt.1 h2)
   simp;omega
  ·have:=Int.mul_nonpos_of_nonneg_of_nonpos (Int.not_lt.1 h1) (Y0Z h2)
   simp;omega
  ·have:=Int.mul_nonneg (Int.not_lt.1 h1) (Int.not_lt.1 h2)
   simp;omega
 ·rw [if_pos (by simp [h])]
  unfold fitS;rw [if_neg];omega
def Z4q (a b:Int):Int×Int×Int:=if b=0 then (0,0,11) else if b = -1/\a = -9223372036854775808 then (0,0,10) else (a.fdiv b,a.fmod b,0)
theorem floor_up {a b:Int} (hb:b≠0) (h1:a.tmod b≠0) (h2:¬(a.tmod b<0↔b<0)):a.fdiv b=a.tdiv b-1/\a.fmod b=a.tmod b+b:=by
 have q1:=Y04 a hb
 have q2:=Int.emod_lt a hb
 have hd:b∣a↔a % b=0:=Int.dvd_iff_emod_eq_zero
 rw [Int.fdiv_eq_ediv,Int.fmod_eq_emod,Int.tdiv_eq_ediv]
 rw [Int.tmod_eq_emod] at h1 h2 ⊢
 simp only [hd] at h1 h2 ⊢
 rcases Int.lt_or_gt_of_ne hb with h|h
 ·rw [Int.sign_eq_neg_one_of_neg h]
  split at h1<;>split<;>simp_all<;>omega
 ·rw [Int.sign_eq_one_of_pos h]
  split at h1<;>split<;>simp_all<;>omega
theorem floor_same {a b:Int} (hb:b≠0) (h:a.tmod b=0\/(a.tmod b<0↔b<0)):a.fdiv b=a.tdiv b/\a.fmod b=a.tmod b:=by
 have q1:=Y04 a hb
 have q2:=Int.emod_lt a hb
 have hd:b∣a↔a % b=0:=Int.dvd_iff_emod_eq_zero
 rw [Int.fdiv_eq_ediv,Int.fmod_eq_emod,Int.tdiv_eq_ediv]
 rw [Int.tmod_eq_emod] at h ⊢
 simp only [hd] at h ⊢
 rcases Int.lt_or_gt_of_ne hb with hh|hh
 ·rw [Int.sign_eq_neg_one_of_neg hh]
  split at h<;>split<;>simp_all<;>omega
 ·rw [Int.sign_eq_one_of_pos hh]
  split at h<;>split<;>simp_all<;>omega
theorem tdiv_in {a b:Int} (ha:In64 a) (hb:b≠0) (hn:¬(b = -1/\a = -9223372036854775808)):In64 (a.tdiv b):=by
 have h:(a.tdiv b).natAbs=a.natAbs / b.natAbs:=Int.natAbs_tdiv a b
 obtain ⟨h1,h2⟩:=ha
 by_cases hb1:b=1
 ·subst hb1;rw [Int.tdiv_one];exact ⟨h1,h2⟩
 ·by_cases hb2:b = -1
  ·have ha':a ≠ -9223372036854775808:=λe=>hn ⟨hb2,e⟩;have:a.natAbs / b.natAbs<=a.natAbs:=Nat.div_le_self _ _;unfold In64;omega
  ·have h3:a.natAbs / b.natAbs<=a.natAbs / 2:=Nat.div_le_div_left (by omega) (by omega)
   unfold In64;omega
theorem tdiv_in1 {a b:Int} (ha:In64 a) (hb:b≠0) (h1:a.tmod b≠0):In64 (a.tdiv b-1):=by
 have h:(a.tdiv b).natAbs=a.natAbs / b.natAbs:=Int.natAbs_tdiv a b
 obtain ⟨h2,h3⟩:=ha
 by_cases hb1:b=1
 ·subst hb1;simp at h1
 ·by_cases hb2:b = -1
  ·subst hb2;simp at h1
  ·have h3:a.natAbs / b.natAbs<=a.natAbs / 2:=Nat.div_le_div_left (by omega) (by omega)
   unfold In64;omega
theorem wrap_in {a:Int} (h:In64 a):IntKind.i64.wrap a=a:=by rw [Z2v];unfold In64 at h;omega
theorem fmod_in {a b:Int} (hb:In64 b) (hb0:b≠0):In64 (a.fmod b):=by
 have q1:=Y04 a hb0
 have q2:=Int.emod_lt a hb0
 rw [Int.fmod_eq_emod]
 unfold In64 at *
 split<;>omega
theorem floor_leaf1 {a b:Int} (ha:In64 a) (hb:In64 b) (h0:b≠0) (hn:¬(b = -1/\a = -9223372036854775808)) (h1:a.tmod b≠0) (h2:¬(a.tmod b<0↔b<0)) :
  (IntKind.i64.wrap (IntKind.i64.wrap (a.tdiv b)-1),IntKind.i64.wrap (a.tmod b+b),(0:Int))=Z4q a b:=by
 obtain ⟨e1,e2⟩:=floor_up h0 h1 h2
 rw [Z4q,if_neg h0,if_neg hn,e1,e2,wrap_in (tdiv_in ha h0 hn),wrap_in (tdiv_in1 ha h0 h1),wrap_in (by rw [<- e2];exact fmod_in hb h0)]
theorem floor_leaf2 {a b:Int} (ha:In64 a) (hb:In64 b) (h0:b≠0) (hn:¬(b = -1/\a = -9223372036854775808)) (h:a.tmod b=0\/(a.tmod b<0↔b<0)) :
  (IntKind.i64.wrap (a.tdiv b),a.tmod b,(0:Int))=Z4q a b:=by
 obtain ⟨e1,e2⟩:=floor_same h0 h
 rw [Z4q,if_neg h0,if_neg hn,e1,e2,wrap_in (tdiv_in ha h0 hn)]
theorem safe_Floor_eq {a b:Int} (ha:In64 a) (hb:In64 b):Z2J a b=some (Z4q a b):=by
 unfold Z2J
 by_cases h0:b=0
 ·subst h0;rfl
 rw [beq_f h0,cond_false]
 by_cases hn:b = -1/\a = -9223372036854775808
 ·obtain ⟨rfl,rfl⟩:=hn
  rfl
 have:(b == -1&&a == -9223372036854775808)=false:=by
  simp only [Bool.and_eq_false_iff,beq_eq_false_iff_ne]
  by_cases h:b = -1
  ·exact .inr λe=>hn ⟨h,e⟩
  ·exact .inl h
 rw [this,cond_false,nz?_ok h0]
 simp only [Y1,pickB,Y8,bne_iff_ne,ne_eq,decide_eq_decide]
 split
 ·rename_i h;simp only [Y1];exact congrArg some (floor_leaf1 ha hb h0 hn h.1 h.2)
 ·rename_i h;simp only [Y1];refine congrArg some (floor_leaf2 ha hb h0 hn ?_)
  by_cases h1:a.tmod b=0
  ·exact .inl h1
  ·exact .inr (Classical.byContradiction λh2=>h ⟨h1,h2⟩)
theorem Z3e {a b:Int} (hb:0<b):a.fdiv b=a / b/\a.fmod b=a % b:=⟨Y0P a (Y0Z hb),Int.fmod_eq_emod_of_nonneg a (Y0Z hb)⟩
theorem floorS_pos {a b:Int} (hb:0<b):Z4q a b=(a / b,a % b,0):=by
 unfold Z4q
 rw [if_neg (by omega),if_neg (by omega),(Z3e hb).1,(Z3e hb).2]
end Go.Dn

namespace Go.Dn
open Go
theorem Z0P:reachBytes=140737488351232:=rfl
def ZB (t:Int):Prop:=-1099511627776<=t/\t<=1099511627776
instance (t:Int):Decidable (ZB t):=by unfold ZB;infer_instance
theorem Z2Y (t:Int):ZQ t=decide (ZB t):=by
 rw [Bool.eq_iff_iff,decide_eq_true_iff];simp [ZQ,ZB]
theorem Z3R (t:Int):Z0F t=decide (ZB t):=by
 rw [Bool.eq_iff_iff,decide_eq_true_iff];simp [Z0F,ZB]
theorem Z19 {t:Int} (h:ZB t):In64 t:=by unfold ZB at h;unfold In64;omega
structure RightL (l:List Span):Prop where
 ok:∀ (k:Nat) (s:Span),l[k]? = some s->ZB s.From/\ZB s.To/\s.From<=s.To
 gap:∀ (k:Nat) (s t:Span),l[k]? = some s->l[k+1]? = some t->s.To+2<=t.From
abbrev Len (l:List Span):Prop:=l.length*16<=reachBytes
abbrev Sp64 (l:List Span):Prop:=∀ s∈l,In64 s.From/\In64 s.To
theorem Span.ok64 {s:Span} (h:s.ok):In64 s.From/\In64 s.To:=h
theorem okSpans {l:List Span} (h:okL 16 Span.ok l):Len l/\Sp64 l:=⟨h.1,λs hs=>Span.ok64 (h.2 s hs)⟩
theorem RightL.sp64 {l:List Span} (h:RightL l):Sp64 l:=λs hs=>by
 obtain ⟨k,hk⟩:=YD hs
 have:=h.ok k s hk
 exact ⟨Z19 this.1,Z19 this.2.1⟩
def Z2L (l:List Span) (k:Nat) (s:Span):Prop:=ZB s.From/\ZB s.To/\s.From<=s.To/\∀ p,k≠0->l[k-1]? = some p->p.To+2<=s.From
theorem Z6j {l:List Span}:RightL l ↔ ∀ k s,l[k]? = some s->Z2L l k s:=by
 constructor
 ·intro h k s hk;obtain ⟨h1,h2,h3⟩:=h.ok k s hk;refine ⟨h1,h2,h3,λp h0 hp=>?_⟩;have:k-1+1=k:=by omega
  exact h.gap (k-1) p s hp (by rw [this];exact hk)
 ·intro h;refine ⟨λk s hk=>⟨(h k s hk).1,(h k s hk).2.1,(h k s hk).2.2.1⟩,λk s t hs ht=>(h (k+1) t ht).2.2.2 s (by omega) (by simpa using hs)⟩
theorem Z48 {l:List Span} (hl:Len l) (h64:Sp64 l):∃ b,Zx l=some b/\(b=true↔RightL l):=by
 have hlen:l.length<=maxLen:=by rw [Z5Q];have:=Z0P;unfold Len at hl;omega
 have step:∀ (k:Nat) (s:Span),l[k]? = some s->(∀ j y,j<k->l[j]? = some y->Z2L l j y)->∃ b,Zx.s0 l (k:Int)=(if b=true then some (.inl ((k:Int)+1)) else some (.inr (.ret false)))/\(b=true↔Z2L l k s):=by
  intro k s hk hprev;have hlt:=(List.getElem?_eq_some_iff.1 hk).1;have hat:at? l (k:Int)=some s:=by rw [at?_nat hlt];rw [Y3 hlt] at hk;exact hk
  unfold Zx.s0;rw [Zd (show (k:Int)<l.length by omega),cond_true,hat]
  simp only [Y1,Z2Y];have hk1:w64 ((k:Int)+1)=k+1:=Zb (by rw [Z5Q] at hlen;omega)
  by_cases h1:ZB s.From/\ZB s.To/\s.From<=s.To
  ·have:(!decide (ZB s.From) || !decide (ZB s.To)||decide (s.From>s.To))=false:=by
    rw [Zd h1.1,Zd h1.2.1,Zr (by omega)];rfl
   rw [this,cond_false]
   by_cases h0:k=0
   ·subst h0;refine ⟨true,by simp [w64];rw [Z2v];rfl,by simp [Z2L,h1]⟩
   ·have hk0:(k:Int)>0:=by omega
    have hpl:k-1<l.length:=by omega
    have hp:at? l (w64 ((k:Int)-1))=some l[k-1]:=by
     rw [Zb (by rw [Z5Q] at hlen;omega),show ((k:Int)-1)=((k-1:Nat):Int) by omega,at?_nat hpl]
    have hpg:=hprev (k-1) _ (by omega) (Y3 hpl)
    have hpt:w64 (l[k-1].To+2)=l[k-1].To+2:=by
     have:=hpg.2.1;unfold ZB at this;exact Zb (by omega)
    rw [Zd hk0,cond_true,hp];simp only [Y1,hpt];refine ⟨!decide (s.From<l[k-1].To+2),?_,?_⟩
    ·cases hd:decide (s.From<l[k-1].To+2)<;>simp [hk1]
    ·simp only [YQ,decide_eq_false_iff_not,Z2L]
     constructor
     ·intro h;refine ⟨h1.1,h1.2.1,h1.2.2,λp _ hp'=>?_⟩;rw [Y3 hpl] at hp';cases hp';omega
     ·intro h;have:=h.2.2.2 _ h0 (Y3 hpl);omega
  ·refine ⟨false,?_,by simp only [YB,Z2L,false_iff];intro h;exact h1 ⟨h.1,h.2.1,h.2.2.1⟩⟩
   have:(!decide (ZB s.From) || !decide (ZB s.To)||decide (s.From>s.To))=true:=by
    by_cases a1:ZB s.From
    ·by_cases a2:ZB s.To
     ·have a3:s.From>s.To:=by
       apply Classical.byContradiction;intro h;exact h1 ⟨a1,a2,by omega⟩
      rw [Zd a3];simp
     ·rw [Zr a2];simp
    ·rw [Zr a1];simp
   rw [this];rfl
 unfold Zx
 rcases Z2s (l:=l) (step:=Zx.s0 l) (Z2L l) (no:=.ret false) (yes:=.go ()) (λk x hk hp=>by
   obtain ⟨b,h1,h2⟩:=step k x hk hp;cases b
   ·exact .inr ⟨h1,λh=>by have:=h2.2 h;cases this⟩
   ·exact .inl ⟨h1,h2.1 rfl⟩) (by
   unfold Zx.s0;rw [Zr (by omega)];rfl) with ⟨h1,h2⟩|⟨h1,h2⟩
 ·rw [h1];exact ⟨true,rfl,by simp [Z6j.2 h2]⟩
 ·rw [h1];exact ⟨false,rfl,by simp only [YB,false_iff];exact λh=>h2 (Z6j.1 h)⟩
def Z00 (by_:Int) (s:Span):Span:=⟨s.From+by_,s.To+by_⟩
theorem Z4U {l:List Span} {b:Int} (hl:Len l) (h64:Sp64 l) (hb:In64 b) :
  ((∀ s∈l,ZB (s.From+b)/\ZB (s.To+b))/\ZZ l b=some (l.map (Z00 b),0))\/((¬ ∀ s∈l,ZB (s.From+b)/\ZB (s.To+b))/\ZZ l b=some ([],20)):=by
 have hlen:(l.length:Int)<9223372036854775807:=by have:=Z0P;unfold Len at hl;omega
 have step:∀ (k:Nat) (s:Span) (acc:List Span),l[k]? = some s->acc.length=k->ZZ.s0 l b ((k:Int),acc)=if ZB (s.From+b)/\ZB (s.To+b) then some (.inl ((k:Int)+1,acc++[Z00 b s])) else some (.inr (.ret ([],20))):=by
  intro k s acc hk hacc;have hlt:=(List.getElem?_eq_some_iff.1 hk).1;have hat:at? l (k:Int)=some s:=by rw [at?_nat hlt];rw [Y3 hlt] at hk;exact hk
  obtain ⟨f64,t64⟩:=h64 s (Y6 hk);unfold ZZ.s0;rw [Zd (show (k:Int)<l.length by omega),cond_true,hat]
  simp only [Y1];rw [Z66 f64 hb,Z66 t64 hb,Z2Y,Z2Y];have hk1:w64 ((k:Int)+1)=k+1:=Zb (by omega)
  have happ:∀ x:Span,app? 16 acc [x]=some (acc++[x]):=λx=>app?_ok (by
   have:=Z0P;have:=Z5J;unfold Len at hl;simp;omega)
  rcases fit_or (s.From+b) with ⟨q1,q2⟩|⟨q1,q2⟩<;>rcases fit_or (s.To+b) with ⟨q3,q4⟩|⟨q3,q4⟩<;>rw [q2,q4]
  ·by_cases h:ZB (s.From+b)/\ZB (s.To+b)
   ·rw [if_pos h,Zd h.1,Zd h.2];simp [happ,hk1,Z00]
   ·rw [if_neg h];have:(!decide (ZB (s.From+b)) || !decide (ZB (s.To+b)))=true:=by
     by_cases h1:ZB (s.From+b)
     ·rw [Zr (λh2=>h ⟨h1,h2⟩)];simp
     ·rw [Zr h1];simp
    simp only [bne_self_eq_false,Bool.false_or,Bool.or_assoc] at this ⊢;rw [this];rfl
  ·rw [if_neg (λh=>q3 (Z19 h.2))];rfl
  ·rw [if_neg (λh=>q1 (Z19 h.1))];rfl
  ·rw [if_neg (λh=>q1 (Z19 h.1))];rfl
 have hend:∀ acc,ZZ.s0 l b ((l.length:Int),acc)=some (.inr (.go acc)):=λacc=>by unfold ZZ.s0;rw [Zr (by omega)];rfl
 unfold ZZ
 by_cases hall:∀ s∈l,ZB (s.From+b)/\ZB (s.To+b)
 ·refine .inl ⟨hall,?_⟩;have:loopO (ZZ.s0 l b) (0,[])=some (.go (l.map (Z00 b))):=by
   refine Z0k (I:=λ(s:Int×List Span) r=>r = .go (l.map (Z00 b))/\∃ k:Nat,k<=l.length/\s=((k:Int),(l.take k).map (Z00 b))) (λs=>l.length-s.1.toNat) ?_ ⟨rfl,0,YW _,by simp⟩
   rintro s r ⟨rfl,k,hk,rfl⟩
   by_cases hlt:k<l.length
   ·refine .inl ⟨_,by rw [step k l[k] _ (Y3 hlt) (by simp;omega),if_pos (hall _ (Ya hlt))],⟨rfl,k+1,hlt,?_⟩,by simp;omega⟩
    rw [Y0B hlt,Y03];push_cast;rfl
   ·have:k=l.length:=by omega
    subst this;rw [Y0F];exact .inr (hend _)
  rw [this];rfl
 ·refine .inr ⟨hall,?_⟩;obtain ⟨k0,s0,hk0,hb0,hg⟩:=Z5j (l:=l) (good:=λ_ s=>ZB (s.From+b)/\ZB (s.To+b)) (λh=>hall λs hs=>by
   obtain ⟨k,hk⟩:=YD hs;exact h k s hk)
  have hlt0:=(List.getElem?_eq_some_iff.1 hk0).1;have:loopO (ZZ.s0 l b) (0,[])=some (.ret ([],20)):=by
   refine Z0k (I:=λ(s:Int×List Span) r=>r = .ret ([],20)/\∃ k:Nat,k<=k0/\s.1=(k:Int)/\s.2.length=k) (λs=>l.length-s.1.toNat) ?_ ⟨rfl,0,YW _,rfl,rfl⟩;rintro ⟨i,acc⟩ r ⟨rfl,k,hk,h1,h2⟩;simp only at h1 h2;subst h1
   by_cases hlt:k<k0
   ·have hkl:k<l.length:=by omega
    exact .inl ⟨_,by rw [step k l[k] _ (Y3 hkl) h2,if_pos (hg k _ hlt (Y3 hkl))],⟨rfl,k+1,hlt,by push_cast;rfl,by simp;omega⟩,by simp;omega⟩
   ·have:k=k0:=by omega
    subst this;exact .inr (by rw [step k s0 _ hk0 h2,if_neg hb0])
  rw [this];rfl
theorem RightL.shift {l:List Span} {b:Int} (h:RightL l) (ht:∀ s∈l,ZB (s.From+b)/\ZB (s.To+b)):RightL (l.map (Z00 b)):=by
 constructor
 ·intro k s hk;rw [YI,Y0] at hk;obtain ⟨s,hk,rfl⟩:=hk;have h1:=h.ok k s hk;have h2:=ht s (Y6 hk);exact ⟨h2.1,h2.2,by simp only [Z00];omega⟩
 ·intro k s t hk hk1;rw [YI,Y0] at hk hk1;obtain ⟨s,hk,rfl⟩:=hk;obtain ⟨t,hk1,rfl⟩:=hk1;have:=h.gap k s t hk hk1;simp only [Z00];omega
def Z1A (a b:List Span):Prop:=∀ x,a.getLast? = some x->∀ y,b.head? = some y->x.To<y.From
theorem Z2H {a b:List Span} (ha:Len a):∃ r,Z0G a b=some r/\(r=true↔Z1A a b):=by
 unfold Z0G
 cases a with
 | nil=>exact ⟨true,by simp,by simp [Z1A]⟩
 | cons x a=>
  cases b with
  | nil=>exact ⟨true,by simp,by simp [Z1A]⟩
  | cons y b=>
   have hl:((x::a).length:Int)<9223372036854775807:=by have:=Z0P;unfold Len at ha;omega
   have e1:(((x::a).length:Int)==0||((y::b).length:Int)==0)=false:=by simp;omega
   have hlt:(x::a).length-1<(x::a).length:=by simp
   have e2:at? (x::a) (w64 (((x::a).length:Int)-1))=some (x::a)[(x::a).length-1]:=by
    rw [Zb (by simp at hl ⊢;omega),show (((x::a).length:Int)-1)=(((x::a).length-1:Nat):Int) by simp,at?_nat hlt]
   have e3:at? (y::b) 0=some y:=rfl;rw [e1,cond_false,e2,e3];refine ⟨decide ((x::a)[(x::a).length-1].To<y.From),rfl,?_⟩;have hlast:(x::a).getLast? = some (x::a)[(x::a).length-1]:=by rw [Y09,Y3 hlt]
   simp only [decide_eq_true_eq,Z1A,hlast,List.head?_cons,Y5];exact ⟨λh x' hx y' hy=>by rw [<- hx,<- hy];exact h,λh=>h _ rfl _ rfl⟩
theorem span_beq (x y:Span):((x.From==y.From)&&((x.To==y.To)&&true))=decide (x=y):=by
 obtain ⟨x1,x2⟩:=x
 obtain ⟨y1,y2⟩:=y
 by_cases h1:x1=y1<;>by_cases h2:x2=y2<;>simp [h1,h2]
end Go.Dn

namespace Go.Dn
open Go
theorem Z6t (x y:Int):Z0g x y=if x<y then -1 else if y<x then 1 else 0:=by
 unfold Z0g Z0h
 simp only [bne_self_eq_false,cond_false,pickB,decide_eq_true_eq,gt_iff_lt,YB,if_false]
def Inc (l:List Granule):Prop:=∀ (j k:Nat) (a b:Granule),j<k->l[j]? = some a->l[k]? = some b->a.Index<b.Index
theorem bsearch_eq {l:List Granule} {t:Int} (hl:l.length*32<=reachBytes) (hs:Inc l):∃ p:Nat,p<=l.length/\(∀ (k:Nat) (g:Granule),l[k]? = some g->(k<p↔g.Index<t)) /\
  Z3 l t (λz0 z1=>some (Z1Z z0 z1))=some ((p:Int),decide (∃ g,l[p]? = some g/\g.Index=t)):=by
 have hlen:(l.length:Int)<4398046511104*4:=by have:=Z0P;omega
 have hcmp:∀ g i,Z1Z g i=if g.Index<i then -1 else if i<g.Index then 1 else 0:=λg i=>Z6t _ _
 obtain ⟨r,h1,p,rfl,hp,hlow,hhigh⟩:=Z1b (step:=Z3.s0 l t (λz0 z1=>some (Z1Z z0 z1)))
  (I:=λs=>∃ i j:Nat,s=((i:Int),(j:Int))/\i<=j/\j<=l.length/\(∀ k g,l[k]? = some g->k<i->g.Index<t)/\(∀ k g,l[k]? = some g->j<=k->t<=g.Index))
  (λs=>(s.2-s.1).toNat)
  (λr=>∃ p:Nat,r=(p:Int)/\p<=l.length/\(∀ k g,l[k]? = some g->k<p->g.Index<t)/\(∀ k g,l[k]? = some g->p<=k->t<=g.Index)) (by
  rintro s ⟨i,j,rfl,hij,hj,hlow,hhigh⟩;unfold Z3.s0
  by_cases hlt:i<j
  ·have hm:w64 ((IntKind.u64.wrap (w64 ((i:Int)+j))).fdiv (2 ^ 1))=((i+j) / 2:Nat):=by
    rw [Zb (x:=(i:Int)+j) (by omega),Z45,Y0P _ (by decide),Zb (by omega)]
    omega
   have hml:(i+j) / 2<l.length:=by omega
   simp only [hm];rw [Zd (show (i:Int)<j by omega),cond_true,at?_nat hml]
   simp only [Y1,hcmp];refine .inl ?_;have hget:=Y3 hml
   by_cases hc:l[(i+j) / 2].Index<t
   ·rw [if_pos hc];refine ⟨((((i+j) / 2+1:Nat):Int),(j:Int)),?_,⟨(i+j) / 2+1,j,rfl,by omega,hj,λk g hk hki=>?_,hhigh⟩,by simp;omega⟩
    ·rw [Zb (by omega)];simp
    ·rcases YF k ((i+j) / 2) with h|h
     ·have:=hs k _ g _ h hk hget;omega
     ·have:k=(i+j) / 2:=by omega
      subst this;rw [hget] at hk;cases hk;exact hc
   ·rw [if_neg hc];refine ⟨((i:Int),(((i+j) / 2:Nat):Int)),?_,⟨i,(i+j) / 2,rfl,by omega,by omega,hlow,λk g hk hki=>?_⟩,by simp;omega⟩
    ·split<;>simp
    ·rcases YF ((i+j) / 2) k with h|h
     ·have:=hs _ k _ g h hget hk;omega
     ·have:k=(i+j) / 2:=by omega
      subst this;rw [hget] at hk;cases hk;omega
  ·refine .inr ⟨(i:Int),by rw [Zr (show ¬ (i:Int)<j by omega)];rfl,i,rfl,by omega,hlow,λk g hk hki=>hhigh k g hk (by omega)⟩) (0,(l.length:Int)) ⟨0,l.length,rfl,YW _,YA _,λk g _ h=>by omega,λk g hk h=>by
    rw [Yl h] at hk;cases hk⟩
 refine ⟨p,hp,λk g hk=>⟨λh=>hlow k g hk h,λh=>?_⟩,?_⟩
 ·rcases YF k p with h2|h2
  ·exact h2
  ·have:=hhigh k g hk h2;omega
 ·unfold Z3;rw [h1];simp only [Y1]
  by_cases hlt:p<l.length
  ·rw [Zd (show (p:Int)<l.length by omega),cond_true,at?_nat hlt]
   simp only [Y1,hcmp,Y5,Y4,true_and];have:=hhigh p _ (Y3 hlt) (YA _);rw [Y3 hlt]
   by_cases he:l[p].Index=t
   ·rw [if_neg (by omega),if_neg (by omega)];simp [he]
   ·rw [if_neg (by omega),if_pos (by omega)];simp [he]
  ·rw [Zr (show ¬ (p:Int)<l.length by omega),cond_false]
   simp only [Y1,Y5,Y4,true_and];rw [Yl (by omega)]
   simp
structure Shape (f:Form):Prop where
 count:f.Count=f.Core.length
 zero:f.Count=0↔f.Period=0
 per:0<=f.Period/\f.Period<=1099511627776
 core:∀ l∈f.Core,RightL l
 odd:∀ g∈f.Odd,RightL g.Ticks/\ZB g.Index
 inc:Inc f.Odd
structure Lim (f:Form):Prop where
 core:f.Core.length*24<=reachBytes
 sets:∀ l∈f.Core,Len l/\Sp64 l
 odd:f.Odd.length*32<=reachBytes
 ticks:∀ g∈f.Odd,In64 g.Index/\Len g.Ticks/\Sp64 g.Ticks
 count:In64 f.Count
 period:In64 f.Period
theorem Form.lim {f:Form} (h:f.ok):Lim f:=by
 obtain ⟨h1,h2,h3,h4⟩:=h
 exact ⟨h3.1,λl hl=>okSpans (h3.2 l hl),h4.1,λg hg=>⟨(h4.2 g hg).1,okSpans (h4.2 g hg).2⟩,h2,h1⟩
theorem Z2X {f:Form} (hl:Lim f) (hs:Inc f.Odd) (i:Int):∃ p:Nat,p<=f.Odd.length/\(∀ (k:Nat) (g:Granule),f.Odd[k]? = some g->(k<p↔g.Index<i))/\Z2l f i=some ((p:Int),decide (∃ g,f.Odd[p]? = some g/\g.Index=i)):=by
 obtain ⟨p,h1,h2,h3⟩:=bsearch_eq (t:=i) hl.odd hs
 exact ⟨p,h1,h2,by unfold Z2l;rw [h3];rfl⟩
def Z1T (f:Form) (i:Int):Prop:=∃ g∈f.Odd,g.Index=i
def Z0e (f:Form) (i:Int):List Span:=f.Core.getD (i % f.Count).toNat []
def Z25 (f:Form) (i:Int):Int:=i / f.Count*f.Period
open Classical in
noncomputable def ZS (f:Form) (i:Int):List Span:=if h:Z1T f i then h.choose.Ticks else if f.Count=0 then [] else (Z0e f i).map (Z00 (Z25 f i))
theorem Inc.uniq {l:List Granule} (h:Inc l) {a b:Granule} (ha:a∈l) (hb:b∈l) (he:a.Index=b.Index):a=b:=by
 obtain ⟨j,hj⟩:=YD ha
 obtain ⟨k,hk⟩:=YD hb
 rcases Nat.lt_trichotomy j k with hjk|rfl|hjk
 ·have:=h j k a b hjk hj hk;omega
 ·rw [hj] at hk;cases hk;rfl
 ·have:=h k j b a hjk hk hj;omega
theorem Z0i {f:Form} (hs:Inc f.Odd) {g:Granule} (hg:g∈f.Odd):ZS f g.Index=g.Ticks:=by
 have h:Z1T f g.Index:=⟨g,hg,rfl⟩
 unfold ZS
 rw [dif_pos h]
 rw [hs.uniq h.choose_spec.1 hg h.choose_spec.2]
theorem Z0t {f:Form} {i:Int} (h:¬ Z1T f i) (h0:f.Count=0):ZS f i=[]:=by unfold ZS;rw [dif_neg h,if_pos h0]
theorem Z0v {f:Form} {i:Int} (h:¬ Z1T f i) (h0:f.Count≠0):ZS f i=(Z0e f i).map (Z00 (Z25 f i)):=by unfold ZS;rw [dif_neg h,if_neg h0]
theorem Z53 {f:Form} (hs:Shape f) (h0:f.Count≠0):0<f.Count:=by have:=hs.count;omega
theorem Z0d {f:Form} (hs:Shape f) (h0:f.Count≠0) (i:Int):at? f.Core (i % f.Count)=some (Z0e f i)/\Z0e f i∈f.Core:=by
 have hp:=Z53 hs h0
 have h1:=Y04 i h0
 have h2:=Y0W i hp
 have h3:(i % f.Count).toNat<f.Core.length:=by have:=hs.count;omega
 unfold Z0e
 rw [at?_lt h1 (by have:=hs.count;omega),Y07,Y3 h3]
 exact ⟨rfl,Ya h3⟩
theorem Z4W {f:Form} (hl:Lim f) (hs:Shape f) {g:Granule} (hg:g∈f.Odd):Z0x f g.Index=some (g.Ticks,0,0):=by
 obtain ⟨p,h1,h2,h3⟩:=Z2X hl hs.inc g.Index
 obtain ⟨k,hk⟩:=YD hg
 have hkl:=(List.getElem?_eq_some_iff.1 hk).1
 have hpk:p<=k:=by
  rcases YF k p with h|h
  ·have:=(h2 k g hk).1 h;omega
  ·exact h
 have hpl:p<f.Odd.length:=by omega
 have hpg:=h2 p _ (Y3 hpl)
 have:p=k:=by
  rcases YF p k with h|h
  ·have:=hs.inc p k _ g h (Y3 hpl) hk;exact absurd (hpg.2 this) (Nat.lt_irrefl _)
  ·omega
 subst this
 unfold Z0x
 rw [h3]
 simp only [Y1]
 rw [Zd ⟨g,hk,rfl⟩,cond_true,at?_nat hpl]
 rw [Y3 hpl] at hk
 cases hk;rfl
theorem Z47 {f:Form} (hl:Lim f) (hs:Shape f) {i:Int} (hi:In64 i) (ho:¬ Z1T f i):Z0x f i=if f.Count=0 then some ([],0,0) else some (Z0e f i,(fitS (Z25 f i)).1,(fitS (Z25 f i)).2):=by
 obtain ⟨p,h1,h2,h3⟩:=Z2X hl hs.inc i
 unfold Z0x
 rw [h3]
 simp only [Y1]
 rw [Zr (by rintro ⟨g,hg,he⟩;exact ho ⟨g,Y6 hg,he⟩),cond_false]
 by_cases h0:f.Count=0
 ·rw [beq_t h0,cond_true,if_pos h0]
 ·rw [beq_f h0,cond_false,if_neg h0,safe_Floor_eq hi hl.count,floorS_pos (Z53 hs h0)];simp only [Y1];rw [(Z0d hs h0 i).1];simp only [Y1];have hq:In64 (i / f.Count):=by
   have hp:=Z53 hs h0;unfold In64 at hi ⊢
   constructor
   ·have : -9223372036854775808<=i / f.Count:=by
     rw [Int.le_ediv_iff_mul_le hp];have:(-9223372036854775808)*f.Count<=-9223372036854775808:=by
      have:(-9223372036854775808)*f.Count<=(-9223372036854775808)*1:=Int.mul_le_mul_of_nonpos_left (by omega) (by omega)
      omega
     omega
    exact this
   ·have:i / f.Count<=9223372036854775807:=by
     rcases Int.lt_or_le i 0 with h|h
     ·have:i / f.Count<0:=Int.ediv_neg_of_neg_of_pos h hp;omega
     ·have:=Int.ediv_le_self f.Count h;omega
    exact this
  rw [safe_Mul_eq hq hl.period]
  rfl
def fits (f:Form) (i:Int):Prop:=∀ s∈ZS f i,ZB s.From/\ZB s.To
theorem shift0 (l:List Span):l.map (Z00 0)=l:=by
 have:Z00 0=id:=by funext s;simp [Z00]
 rw [this,List.map_id]
theorem Z0Y {f:Form} {i:Int} (ho:¬ Z1T f i) (h0:f.Count≠0):ZS f i=[]↔Z0e f i=[]:=by rw [Z0v ho h0,List.map_eq_nil_iff]
open Classical in
theorem Z3m {f:Form} (hl:Lim f) (hs:Shape f) {i:Int} (hi:In64 i):Z0U f i=some (if ZB i/\fits f i then (ZS f i,0) else ([],20)):=by
 unfold Z0U
 rw [Z3R]
 by_cases ht:ZB i
 ·rw [Zd ht,Y0K,cond_false]
  by_cases ho:Z1T f i
  ·obtain ⟨g,hg,rfl⟩:=ho;have hset:=Z0i hs.inc hg;have hr:=(hs.odd g hg).1;have hf:fits f g.Index:=by
    intro s hsm;rw [hset] at hsm;obtain ⟨k,hk⟩:=YD hsm;exact ⟨(hr.ok k s hk).1,(hr.ok k s hk).2.1⟩
   rw [Z4W hl hs hg,if_pos ⟨ht,hf⟩,hset];simp only [Y1]
   by_cases hn:g.Ticks=[]
   ·rw [hn];rfl
   ·have:((g.Ticks.length:Int)==0)=false:=beq_f (by have:=List.length_pos_iff.2 hn;omega)
    rw [this,cond_false];simp only [bne_self_eq_false,cond_false];rcases Z4U (b:=0) (hl.ticks g hg).2.1 hr.sp64 ⟨by decide,by decide⟩ with ⟨_,h2⟩|⟨h1,_⟩
    ·rw [h2,shift0];rfl
    ·refine absurd (λs hsm=>?_) h1;rw [<- hset] at hsm
     simpa using hf s hsm
  ·rw [Z47 hl hs hi ho]
   by_cases h0:f.Count=0
   ·rw [if_pos h0,if_pos ⟨ht,by intro s hsm;rw [Z0t ho h0] at hsm;cases hsm⟩,Z0t ho h0];rfl
   ·rw [if_neg h0];simp only [Y1]
    by_cases hn:Z0e f i=[]
    ·rw [if_pos ⟨ht,by intro s hsm;rw [(Z0Y ho h0).2 hn] at hsm;cases hsm⟩,(Z0Y ho h0).2 hn,hn];rfl
    ·have:(((Z0e f i).length:Int)==0)=false:=beq_f (by have:=List.length_pos_iff.2 hn;omega)
     rw [this,cond_false];have hmem:=(Z0d hs h0 i).2;have hr:=hs.core _ hmem;have hfe:fits f i ↔ ∀ s∈Z0e f i,ZB (s.From+Z25 f i)/\ZB (s.To+Z25 f i):=by
      unfold fits;rw [Z0v ho h0]
      constructor
      ·intro h s hsm;exact h (Z00 (Z25 f i) s) (List.mem_map.2 ⟨s,hsm,rfl⟩)
      ·intro h s hsm;obtain ⟨s,hsm',rfl⟩:=List.mem_map.1 hsm;exact h s hsm'
     rcases fit_or (Z25 f i) with ⟨q1,q2⟩|⟨q1,q2⟩<;>rw [q2]
     ·simp only [bne_self_eq_false,cond_false];rcases Z4U (b:=Z25 f i) (hl.sets _ hmem).1 hr.sp64 q1 with ⟨h1,h2⟩|⟨h1,h2⟩
      ·rw [h2,if_pos ⟨ht,hfe.2 h1⟩,Z0v ho h0];rfl
      ·rw [h2,if_neg (λh=>h1 (hfe.1 h.2))];rfl
     ·rw [if_neg]
      ·rfl
      ·rintro ⟨_,h⟩;have h:=hfe.1 h;obtain ⟨s,hsm⟩:=List.exists_mem_of_ne_nil _ hn;have h1:=(h s hsm).1;obtain ⟨k,hk⟩:=YD hsm;have h2:=(hr.ok k s hk).1;unfold ZB at h1 h2;exact q1 (by unfold In64;omega)
 ·rw [Zr ht,if_neg (λh=>ht h.1)];rfl
open Classical in
theorem Z5N {f:Form} (hl:Lim f) (hs:Shape f) {i:Int} (hi:In64 i):Z2u f i=some (decide (ZS f i≠[])):=by
 unfold Z2u
 by_cases ho:Z1T f i
 ·obtain ⟨g,hg,rfl⟩:=ho;rw [Z4W hl hs hg,Z0i hs.inc hg];simp only [Y1];cases g.Ticks<;>simp
 ·rw [Z47 hl hs hi ho]
  by_cases h0:f.Count=0
  ·rw [if_pos h0,Z0t ho h0];rfl
  ·rw [if_neg h0];simp only [Y1,Ne,Z0Y ho h0];cases Z0e f i<;>simp
end Go.Dn

namespace Go.Dn
open Go
theorem Z1X {α:Type} {l:List α} {b:Nat} (h:l.length*(b+1)<=reachBytes):(l.length:Int)<4611686018427387904:=by
 have:=Z0P
 have:l.length<=l.length*(b+1):=Nat.le_mul_of_pos_right _ (by omega)
 omega
theorem Z5R {α:Type} {l:List α} {k:Nat} {x:α} (h:l[k]? = some x):at? l (k:Int)=some x/\(k:Int)<l.length:=by
 have hlt:=(List.getElem?_eq_some_iff.1 h).1
 rw [Y3 hlt] at h
 exact ⟨by rw [at?_nat hlt];exact h,by omega⟩
theorem shape_core {f:Form} (hl:Lim f):(loopO (ZX.s0 f) 0=some (.go ())/\∀ l∈f.Core,RightL l)\/(loopO (ZX.s0 f) 0=some (.ret false)/\¬ ∀ l∈f.Core,RightL l):=by
 have hlen:=Z1X (b:=23) hl.core
 rcases Z2s (l:=f.Core) (step:=ZX.s0 f) (λ_ x=>RightL x) (no:=.ret false) (yes:=.go ()) (λk x hk _=>by
   obtain ⟨h1,h2⟩:=Z5R hk;obtain ⟨b,hb,hr⟩:=Z48 (hl.sets x (Y6 hk)).1 (hl.sets x (Y6 hk)).2;unfold ZX.s0;rw [Zd h2,cond_true,h1];simp only [Y1,hb,Zb (show -9223372036854775808<=(k:Int)+1/\(k:Int)+1<=9223372036854775807 by omega)]
   cases b
   ·exact .inr ⟨rfl,λh=>by have:=hr.2 h;cases this⟩
   ·exact .inl ⟨rfl,hr.1 rfl⟩) (by unfold ZX.s0;rw [Zr (by omega)];rfl) with ⟨h1,h2⟩|⟨h1,h2⟩
 ·exact .inl ⟨h1,λl hm=>by obtain ⟨k,hk⟩:=YD hm;exact h2 k l hk⟩
 ·exact .inr ⟨h1,λh=>h2 λk x hk=>h x (Y6 hk)⟩
def goodOdd (f:Form) (k:Nat) (g:Granule):Prop:=RightL g.Ticks/\ZB g.Index/\∀ p,k≠0->f.Odd[k-1]? = some p->p.Index<g.Index
theorem shape_odd {f:Form} (hl:Lim f):(loopO (ZX.s1 f) 0=some (.go ())/\∀ k g,f.Odd[k]? = some g->goodOdd f k g)\/(loopO (ZX.s1 f) 0=some (.ret false)/\¬ ∀ k g,f.Odd[k]? = some g->goodOdd f k g):=by
 have hlen:=Z1X (b:=31) hl.odd
 refine Z2s (l:=f.Odd) (step:=ZX.s1 f) (goodOdd f) (no:=.ret false) (yes:=.go ()) (λk x hk _=>?_) (by unfold ZX.s1;rw [Zr (by omega)];rfl)
 obtain ⟨h1,h2⟩:=Z5R hk
 have hx:=hl.ticks x (Y6 hk)
 obtain ⟨b,hb,hr⟩:=Z48 hx.2.1 hx.2.2
 unfold ZX.s1
 rw [Zd h2,cond_true,h1]
 simp only [Y1,hb,Z3R,Zb (show -9223372036854775808<=(k:Int)+1/\(k:Int)+1<=9223372036854775807 by omega)]
 by_cases hbt:b=true/\ZB x.Index
 ·rw [hbt.1,Zd hbt.2];simp only [Y0K,Bool.or_self,cond_false]
  by_cases h0:k=0
  ·subst h0;exact .inl ⟨by simp,hr.1 hbt.1,hbt.2,λp h=>absurd rfl h⟩
  ·have hpl:k-1<f.Odd.length:=by omega
   rw [Zd (show (k:Int)>0 by omega),cond_true,Zb (by omega),show (k:Int)-1=((k-1:Nat):Int) by omega,at?_nat hpl]
   simp only [Y1]
   by_cases hc:x.Index<=f.Odd[k-1].Index
   ·rw [Zd hc];refine .inr ⟨rfl,λh=>?_⟩;have:=h.2.2 _ h0 (Y3 hpl);omega
   ·rw [Zr hc];refine .inl ⟨rfl,hr.1 hbt.1,hbt.2,λp _ hp=>?_⟩;rw [Y3 hpl] at hp;cases hp;omega
 ·have:(!b || !decide (ZB x.Index))=true:=by
   cases b
   ·rfl
   ·rw [Zr (λh=>hbt ⟨rfl,h⟩)];rfl
  rw [this,cond_true];exact .inr ⟨rfl,λh=>hbt ⟨hr.2 h.1,h.2.1⟩⟩
theorem inc_of {f:Form} (h:∀ k g,f.Odd[k]? = some g->goodOdd f k g):Inc f.Odd:=by
 intro j k a b hjk ha hb
 induction k generalizing b with
 | zero=>omega
 | succ k ih=>
  have hkl:=(List.getElem?_eq_some_iff.1 hb).1;have h1:=(h (k+1) b hb).2.2 f.Odd[k] (by omega) (by simp [Y3 (show k<f.Odd.length by omega)])
  rcases YF j k with h2|h2
  ·have:=ih _ h2 (Y3 (show k<f.Odd.length by omega));omega
  ·have:j=k:=by omega
   subst this;rw [Y3 (show j<f.Odd.length by omega)] at ha;cases ha;exact h1
theorem gran_shape_eq {f:Form} (hl:Lim f):∃ b,ZX f=some b/\(b=true↔Shape f):=by
 unfold ZX
 by_cases h1:f.Count=f.Core.length/\(f.Count=0↔f.Period=0)/\0<=f.Period/\f.Period<=1099511627776
 ·have e:(f.Count != (f.Core.length:Int)||(f.Count==0) != (f.Period==0)||decide (f.Period<0)||decide (f.Period>1099511627776))=false:=by
   rw [bne_f h1.1,Zr (show ¬ f.Period<0 by omega),Zr (show ¬ f.Period>1099511627776 by omega)]
   simp only [Bool.false_or,Bool.or_false,bne_eq_false_iff_eq,ibeq,decide_eq_decide];exact h1.2.1
  rw [e,cond_false];rcases shape_core hl with ⟨h2,h3⟩|⟨h2,h3⟩
  ·rw [h2];simp only [Y1,Jx.elim];rcases shape_odd hl with ⟨h4,h5⟩|⟨h4,h5⟩
   ·rw [h4];exact ⟨true,rfl,λ_=>⟨h1.1,h1.2.1,h1.2.2,h3,λg hg=>by obtain ⟨k,hk⟩:=YD hg;exact ⟨(h5 k g hk).1,(h5 k g hk).2.1⟩,inc_of h5⟩,λ_=>rfl⟩
   ·rw [h4];refine ⟨false,rfl,λh=>(by cases h),λh=>absurd (λk g hk=>⟨(h.odd g (Y6 hk)).1,(h.odd g (Y6 hk)).2,λp h0 hp=>h.inc (k-1) k p g (by omega) hp hk⟩) h5⟩
  ·rw [h2];exact ⟨false,rfl,λh=>(by cases h),λh=>absurd h.core h3⟩
 ·have e:(f.Count != (f.Core.length:Int)||(f.Count==0) != (f.Period==0)||decide (f.Period<0)||decide (f.Period>1099511627776))=true:=by
   apply Classical.byContradiction;intro hn;simp only [Y06,Bool.or_eq_false_iff,bne_eq_false_iff_eq,decide_eq_false_iff_not,ibeq,decide_eq_decide] at hn;exact h1 ⟨hn.1.1.1,hn.1.1.2,by omega,by omega⟩
  rw [e,cond_true];exact ⟨false,rfl,λh=>(by cases h),λh=>absurd ⟨h.count,h.zero,h.per⟩ h1⟩
def fstT (l:List Span):Int:=(l.head?.map Span.From).getD 0
def lstT (l:List Span):Int:=(l.getLast?.map Span.To).getD 0
theorem Z6Y {a b:List Span} (ha:a≠[]) (hb:b≠[]):Z1A a b↔lstT a<fstT b:=by
 unfold Z1A lstT fstT
 rw [Y01 ha,Y02 hb]
 simp
theorem RightL.tail {s:Span} {l:List Span} (h:RightL (s::l)):RightL l :=
 ⟨λk x hk=>h.ok (k+1) x hk,λk x y hx hy=>h.gap (k+1) x y hx hy⟩
theorem Z3E {l:List Span} (h:RightL l) (hn:l≠[]):fstT l<=lstT l:=by
 induction l with
 | nil=>exact absurd rfl hn
 | cons s l ih=>
  have h0:=h.ok 0 s rfl
  cases l with
  | nil=>simp [fstT,lstT];exact h0.2.2
  | cons t l=>
   have h1:=h.gap 0 s t rfl rfl;have h2:=ih h.tail (by simp)
   have e1:lstT (s::t::l)=lstT (t::l):=by simp [lstT]
   have e2:fstT (t::l)=t.From:=rfl;have e3:fstT (s::t::l)=s.From:=rfl;rw [e1,e3];rw [e2] at h2;omega
theorem lst_tick {l:List Span} (h:RightL l) (hn:l≠[]):ZB (lstT l)/\ZB (fstT l):=by
 have h1:l.getLast? = some (l.getLast hn):=Y01 hn
 have h2:l.head? = some (l.head hn):=Y02 hn
 obtain ⟨j,hj⟩:=YD (List.getLast_mem hn)
 obtain ⟨k,hk⟩:=YD (List.head_mem hn)
 unfold lstT fstT
 rw [h1,h2]
 exact ⟨(h.ok j _ hj).2.1,(h.ok k _ hk).1⟩
def full (f:Form):List (List Span):=f.Core.filter (λl=>decide (l.length>0))
def Turns (f:Form):Prop:=(∀ (k:Nat) (a b:List Span),(full f)[k]? = some a->(full f)[k+1]? = some b->lstT a<fstT b)/\∀ a b,(full f).getLast? = some a->(full f).head? = some b->lstT a<fstT b+f.Period
theorem full_loop {f:Form} (hl:Lim f):loopO (Zo.s0 f) (0,[])=some (full f):=by
 have hlen:=Z1X (b:=23) hl.core
 refine Z0k (I:=λs r=>r=full f/\∃ k:Nat,k<=f.Core.length/\s=((k:Int),(f.Core.take k).filter (λl=>decide (l.length>0)))) (λs=>f.Core.length-s.1.toNat) ?_ ⟨rfl,0,YW _,by simp⟩
 rintro s r ⟨rfl,k,hk,rfl⟩
 unfold Zo.s0
 by_cases hlt:k<f.Core.length
 ·have htake:f.Core.take (k+1)=f.Core.take k++[f.Core[k]]:=Y0B hlt;simp only;rw [Zd (show (k:Int)<f.Core.length by omega),cond_true,at?_nat hlt,Zb (by omega)]
  simp only [Y1];refine .inl ?_;have hfl:((f.Core.take k).filter (λl=>decide (l.length>0))).length<=k:=YT (List.length_filter_le _ _) (by rw [YR];exact Nat.min_le_left _ _)
  by_cases hc:f.Core[k].length>0
  ·rw [Zd (show ((f.Core[k].length:Int)>0) by omega),cond_true,app?_ok (by have h1:=hl.core;rw [Z0P] at h1;rw [Z5J];simp only [List.length_singleton];omega)]
   exact ⟨_,rfl,⟨trivial,k+1,hlt,by rw [htake,List.filter_append];simp [hc]⟩,by simp;omega⟩
  ·rw [Zr (show ¬ ((f.Core[k].length:Int)>0) by omega),cond_false]
   exact ⟨_,rfl,⟨trivial,k+1,hlt,by rw [htake,List.filter_append];simp [hc]⟩,by simp;omega⟩
 ·have:k=f.Core.length:=by omega
  subst this;simp only;rw [Zr (show ¬ ((f.Core.length:Int)<f.Core.length) by omega),cond_false,Y0F]
  exact .inr rfl
theorem gran_turns_eq {f:Form} (hl:Lim f) (hs:Shape f):∃ b,Zo f=some b/\(b=true↔Turns f):=by
 have hlen:=Z1X (b:=23) hl.core
 have hfl:(full f).length<=f.Core.length:=List.length_filter_le _ _
 have hmem:∀ x∈full f,x∈f.Core/\x≠[]:=λx hx=>by
  have:=List.mem_filter.1 hx;exact ⟨this.1,by rintro rfl;simp at this⟩
 unfold Zo
 rw [full_loop hl]
 simp only [Y1]
 rcases Z2s (l:=full f) (step:=Zo.s1 f (full f)) (λk a=>∀ b,(full f)[(k+1) % (full f).length]? = some b->lstT a<fstT b+(if k+1=(full f).length then f.Period else 0)) (no:=.ret false) (yes:=.go ()) (λk a hk _=>by
   obtain ⟨h1,h2⟩:=Z5R hk;have hkl:k<(full f).length:=by omega
   have hmod:(k+1) % (full f).length<(full f).length:=Nat.mod_lt _ (by omega)
   have hnext:at? (full f) ((((k+1) % (full f).length:Nat):Int))=some (full f)[(k+1) % (full f).length]:=at?_nat hmod;obtain ⟨ha1,ha2⟩:=hmem a (Y6 hk);obtain ⟨hb1,hb2⟩:=hmem _ (Ya hmod);have hra:=hs.core a ha1;have hrb:=hs.core _ hb1;have hal:a.length-1<a.length:=by have:=List.length_pos_iff.2 ha2;omega
   have hlast:at? a (w64 ((a.length:Int)-1))=some a[a.length-1]:=by
    have:=Z1X (b:=15) (hl.sets a ha1).1;rw [Zb (by omega),show (a.length:Int)-1=((a.length-1:Nat):Int) by omega,at?_nat hal]
   have hlt:lstT a=a[a.length-1].To:=by unfold lstT;rw [Y09,Y3 hal];rfl
   unfold Zo.s1;rw [Zd h2,cond_true,h1,nz?_ok (by omega),Zb (x:=(k:Int)+1) (by omega)]
   have htm:((k:Int)+1).tmod ((full f).length:Int)=(((k+1) % (full f).length:Nat):Int):=by
    rw [Int.tmod_eq_emod_of_nonneg (by omega)];push_cast;rfl
   simp only [Y1,htm,hnext,hlast];rw [Y3 hmod];generalize (full f)[(k+1) % (full f).length]=b at *
   have hb0:at? b 0=some (b.head hb2):=by
    cases b with
    | nil=>exact absurd rfl hb2
    | cons y b=>rfl
   have hbf:fstT b=(b.head hb2).From:=by unfold fstT;rw [Y02 hb2];rfl
   have htick:=(lst_tick hrb hb2).2;unfold ZB at htick;have hper:=hs.per
   by_cases hl1:k+1=(full f).length
   ·have e:((k:Int)+1==((full f).length:Int))=true:=beq_t (by omega)
    rw [e,cond_true];simp only [Y1,hb0,<- hbf,Zb (show -9223372036854775808<=fstT b+f.Period/\fstT b+f.Period<=9223372036854775807 by omega),<- hlt,if_pos hl1]
    by_cases hc:lstT a>=fstT b+f.Period
    ·rw [Zd hc];exact .inr ⟨rfl,λh=>by have:=h b rfl;omega⟩
    ·rw [Zr hc];exact .inl ⟨rfl,λb' hb'=>by cases hb';omega⟩
   ·have e:((k:Int)+1==((full f).length:Int))=false:=beq_f (by omega)
    rw [e,cond_false];simp only [Y1,hb0,<- hbf,Zb (show -9223372036854775808<=fstT b+0/\fstT b+0<=9223372036854775807 by omega),<- hlt,if_neg hl1]
    by_cases hc:lstT a>=fstT b+0
    ·rw [Zd hc];exact .inr ⟨rfl,λh=>by have:=h b rfl;omega⟩
    ·rw [Zr hc];exact .inl ⟨rfl,λb' hb'=>by cases hb';omega⟩) (by unfold Zo.s1;rw [Zr (by omega)];rfl) with ⟨h1,h2⟩|⟨h1,h2⟩
 ·rw [h1];refine ⟨true,rfl,λ_=>⟨λk a b ha hb=>?_,λa b ha hb=>?_⟩,λ_=>rfl⟩
  ·have hkl:=(List.getElem?_eq_some_iff.1 hb).1;have:=h2 k a ha b (by rw [Nat.mod_eq_of_lt hkl];exact hb)
   rw [if_neg (by omega)] at this;omega
  ·have hn:full f≠[]:=by rintro e;rw [e] at ha;simp at ha
   have hpos:=List.length_pos_iff.2 hn;rw [Y09] at ha;have e1:(full f).length-1+1=(full f).length:=by omega
   have:=h2 _ a ha b (by rw [e1,Nat.mod_self,<- List.head?_eq_getElem?];exact hb)
   rw [if_pos e1] at this;exact this
 ·rw [h1];refine ⟨false,rfl,λh=>(by cases h),λh=>absurd (λk a hk b hb=>?_) h2⟩
  have hkl:=(List.getElem?_eq_some_iff.1 hk).1
  by_cases hl1:k+1=(full f).length
  ·rw [if_pos hl1];rw [hl1,Nat.mod_self,<- List.head?_eq_getElem?] at hb;exact h.2 a b (by rw [Y09,<- hl1];exact hk) hb
  ·rw [if_neg hl1];rw [Nat.mod_eq_of_lt (by omega)] at hb
   have:=h.1 k a b hk hb;omega
end Go.Dn

namespace Go.Dn
open Go
theorem Z6E {l:List (List Span)} {p:List Span->Bool} (hl:l.length*24<=reachBytes):ZW l (λz=>some (p z))=some (decide (∃ x∈l,p x=true)):=by
 have hlen:=Z1X (b:=23) hl
 unfold ZW Z8
 by_cases hall:∀ (k:Nat) (x:List Span),l[k]? = some x->¬ p x=true
 ·have:loopO (Z8.s0 l (λz=>some (p z))) 0=some (.go ()):=by
   refine Z0k (I:=λ(s:Int) r=>r = .go ()/\∃ k:Nat,s=k/\k<=l.length) (λs=>l.length-s.toNat) ?_ ⟨rfl,0,rfl,YW _⟩;rintro s r ⟨rfl,k,rfl,hk⟩;unfold Z8.s0
   by_cases hlt:k<l.length
   ·rw [Zd (show (k:Int)<l.length by omega),cond_true,at?_nat hlt,Zb (by omega)]
    have:=hall k _ (Y3 hlt);simp only [Y1,Y06] at this ⊢;rw [this];exact .inl ⟨_,rfl,⟨trivial,k+1,by push_cast;rfl,hlt⟩,by simp;omega⟩
   ·rw [Zr (show ¬ (k:Int)<l.length by omega)];exact .inr rfl
  rw [this,Zr (by rintro ⟨x,hx,hp⟩;obtain ⟨k,hk⟩:=YD hx;exact hall k x hk hp)]
  rfl
 ·obtain ⟨k0,x0,hx0,hb0,hg⟩:=Z5j (good:=λ_ x=>¬ p x=true) hall;have hb0:p x0=true:=Classical.byContradiction hb0;have hlt0:=(List.getElem?_eq_some_iff.1 hx0).1;have:loopO (Z8.s0 l (λz=>some (p z))) 0=some (.ret (k0:Int)):=by
   refine Z0k (I:=λ(s:Int) r=>r = .ret (k0:Int)/\∃ k:Nat,s=k/\k<=k0) (λs=>l.length-s.toNat) ?_ ⟨rfl,0,rfl,YW _⟩;rintro s r ⟨rfl,k,rfl,hk⟩;unfold Z8.s0;have hkl:k<l.length:=by omega
   rw [Zd (show (k:Int)<l.length by omega),cond_true,at?_nat hkl,Zb (by omega)]
   by_cases hlt:k<k0
   ·have:=hg k _ hlt (Y3 hkl);simp only [Y1,Y06] at this ⊢;rw [this];exact .inl ⟨_,rfl,⟨trivial,k+1,by push_cast;rfl,hlt⟩,by simp;omega⟩
   ·have:k=k0:=by omega
    subst this;rw [Y3 hkl] at hx0;cases hx0;simp only [Y1,hb0];exact .inr rfl
  rw [this,Zd ⟨x0,Y6 hx0,hb0⟩];simp only [Y1,Jx.elim];rw [Zd (by omega)]
def Bare (f:Form):Prop:=∀ l∈f.Core,l=[]
theorem Z5I {f:Form} (hl:Lim f):∃ b,Z32 f=some b/\(b=true↔Bare f):=by
 unfold Z32
 rw [Z6E hl.core]
 refine ⟨_,rfl,?_⟩
 simp only [Z2R,YQ,decide_eq_false_iff_not,decide_eq_true_eq]
 constructor
 ·intro h l hm;apply Classical.byContradiction;intro hn;exact h ⟨l,hm,by have:=List.length_pos_iff.2 hn;omega⟩
 ·rintro h ⟨l,hm,hp⟩;rw [h l hm] at hp;simp at hp
theorem Z38 {f:Form} (hs:Shape f) (hb:Bare f) {i:Int} (ho:¬ Z1T f i):ZS f i=[]:=by
 by_cases h0:f.Count=0
 ·exact Z0t ho h0
 ·exact (Z0Y ho h0).2 (hb _ (Z0d hs h0 i).2)
def UpTo (f:Form) (i:Int) (r:Int×Bool):Prop:=(r.2=true/\i<=r.1/\ZB r.1/\ZS f r.1≠[]/\∀ k,i<=k->k<r.1->ZS f k=[])\/(r.2=false/\r.1=0/\∀ k,i<=k->ZB k->ZS f k=[])
def DownTo (f:Form) (i:Int) (r:Int×Bool):Prop:=(r.2=true/\r.1<=i/\ZB r.1/\ZS f r.1≠[]/\∀ k,k<=i->r.1<k->ZS f k=[])\/(r.2=false/\r.1=0/\∀ k,k<=i->ZB k->ZS f k=[])
theorem odd_split {f:Form} (hs:Shape f) {p:Nat} {i:Int} (hp:∀ (k:Nat) (g:Granule),f.Odd[k]? = some g->(k<p↔g.Index<i)) {j:Int} (hj:Z1T f j):∃ (k:Nat) (g:Granule),f.Odd[k]? = some g/\g.Index=j/\(k<p↔j<i):=by
 obtain ⟨g,hg,rfl⟩:=hj
 obtain ⟨k,hk⟩:=YD hg
 exact ⟨k,g,hk,rfl,hp k g hk⟩
theorem gran_step_up {f:Form} (hl:Lim f) (hs:Shape f) {i:Int} (hi : -1099511627776<=i/\i<=1099511627776):∃ r,Ze f i 1=some r/\UpTo f i r:=by
 have hi64:In64 i:=by unfold In64;omega
 obtain ⟨b,hb,hbb⟩:=Z5I hl
 have holen:=Z1X (b:=31) hl.odd
 unfold Ze
 rw [hb]
 simp only [Y1]
 cases b with
 | true=>
  have hbare:=hbb.1 rfl;rw [cond_true];obtain ⟨p,h1,h2,h3⟩:=Z2X hl hs.inc i;rw [h3];simp only [Y1,Zr (show ¬ (1:Int)<0 by omega),Y0E,cond_false]
  obtain ⟨r,hr,hpost⟩:=Z1b (step:=Ze.s0 f 1) (I:=λ(s:Int)=>∃ k:Nat,s=k/\p<=k/\k<=f.Odd.length/\∀ (j:Nat) (g:Granule),f.Odd[j]? = some g->p<=j->j<k->g.Ticks=[]) (λs=>f.Odd.length-s.toNat)
   (λr=>(∃ (k:Nat) (g:Granule),r = .ret (g.Index,true)/\f.Odd[k]? = some g/\p<=k/\g.Ticks≠[]/\∀ (j:Nat) (g':Granule),f.Odd[j]? = some g'->p<=j->j<k->g'.Ticks=[])\/(r = .go ()/\∀ (j:Nat) (g':Granule),f.Odd[j]? = some g'->p<=j->g'.Ticks=[])) (by
   rintro s ⟨k,rfl,hpk,hk,hn⟩;unfold Ze.s0
   by_cases hlt:k<f.Odd.length
   ·rw [Zd (show (k:Int)>=0 by omega),Zd (show (k:Int)<f.Odd.length by omega),Yi,cond_true,at?_nat hlt,Zb (by omega)]
    simp only [Y1];have hget:=Y3 hlt
    by_cases hc:f.Odd[k].Ticks=[]
    ·rw [hc];refine .inl ⟨(k:Int)+1,rfl,⟨k+1,by push_cast;rfl,by omega,hlt,λj g hj hpj hjk=>?_⟩,by simp;omega⟩
     rcases YF j k with h|h
     ·exact hn j g hj hpj h
     ·have:j=k:=by omega
      subst this;rw [hget] at hj;cases hj;exact hc
    ·rw [Zd (show ((f.Odd[k].Ticks.length:Int)>0) by have:=List.length_pos_iff.2 hc;omega),cond_true]
     exact .inr ⟨_,rfl,.inl ⟨k,_,rfl,hget,hpk,hc,hn⟩⟩
   ·rw [Zr (show ¬ (k:Int)<f.Odd.length by omega),Bool.and_false,cond_false]
    refine .inr ⟨_,rfl,.inr ⟨rfl,λj g hj hpj=>hn j g hj hpj ?_⟩⟩;have:=(List.getElem?_eq_some_iff.1 hj).1;omega) (p:Int) ⟨p,rfl,YA _,h1,λj g _ h h'=>by omega⟩
  rw [hr];simp only [Y1];rcases hpost with ⟨k,g,rfl,hk,hpk,hne,hn⟩|⟨rfl,hn⟩
  ·have hset:=Z0i hs.inc (Y6 hk);have hgi:¬ g.Index<i:=λh=>by have:=(h2 k g hk).2 h;omega
   refine ⟨_,rfl,.inl ⟨rfl,by simp only;omega,(hs.odd g (Y6 hk)).2,by simp only;rw [hset];exact hne,λj hij hjg=>?_⟩⟩
   simp only at hjg
   by_cases ho:Z1T f j
   ·obtain ⟨k',g',hk',rfl,hiff⟩:=odd_split hs h2 ho;rw [Z0i hs.inc (Y6 hk')];refine hn k' g' hk' ?_ ?_
    ·rcases YF k' p with h|h
     ·have:=hiff.1 h;omega
     ·exact h
    ·rcases YF k' k with h|h
     ·exact h
     ·rcases YF k k' with h'|h'
      ·have:=hs.inc k k' g g' h' hk hk';omega
      ·have:k=k':=by omega
       subst this;rw [hk] at hk';cases hk';omega
   ·exact Z38 hs hbare ho
  ·refine ⟨_,rfl,.inr ⟨rfl,rfl,λj hij _=>?_⟩⟩
   by_cases ho:Z1T f j
   ·obtain ⟨k',g',hk',rfl,hiff⟩:=odd_split hs h2 ho;rw [Z0i hs.inc (Y6 hk')];refine hn k' g' hk' ?_;rcases YF k' p with h|h
    ·have:=hiff.1 h;omega
    ·exact h
   ·exact Z38 hs hbare ho
 | false=>
  rw [cond_false];obtain ⟨r,hr,hpost⟩:=Z1b (step:=Ze.s1 f 1) (I:=λ(s:Int)=>i<=s/\s<=1099511627777/\∀ k,i<=k->k<s->ZS f k=[]) (λs=>(1099511627777-s).toNat)
   (λr=>(∃ j,r = .ret (j,true)/\i<=j/\ZB j/\ZS f j≠[]/\∀ k,i<=k->k<j->ZS f k=[])\/(r = .go ()/\∀ k,i<=k->ZB k->ZS f k=[])) (by
   rintro s ⟨hs1,hs2,hn⟩;unfold Ze.s1;rw [Z3R]
   by_cases ht:ZB s
   ·rw [Zd ht,cond_true,Z5N hl hs (Z19 ht),Zb (by unfold ZB at ht;omega)]
    simp only [Y1]
    by_cases hc:ZS f s=[]
    ·rw [hc];refine .inl ⟨s+1,by simp,⟨by omega,by unfold ZB at ht;omega,λk hk hks=>?_⟩,by unfold ZB at ht;omega⟩
     by_cases h:k=s
     ·rw [h];exact hc
     ·exact hn k hk (by omega)
    ·rw [Zd hc,cond_true];exact .inr ⟨_,rfl,.inl ⟨s,rfl,hs1,ht,hc,hn⟩⟩
   ·rw [Zr ht,cond_false];exact .inr ⟨_,rfl,.inr ⟨rfl,λk hk htk=>hn k hk (by unfold ZB at ht htk;omega)⟩⟩) i ⟨Int.le_refl _,by omega,λk h h'=>by omega⟩
  rw [hr];simp only [Y1];rcases hpost with ⟨j,rfl,h1,h2,h3,h4⟩|⟨rfl,hn⟩
  ·exact ⟨_,rfl,.inl ⟨rfl,h1,h2,h3,h4⟩⟩
  ·exact ⟨_,rfl,.inr ⟨rfl,rfl,hn⟩⟩
theorem Z71 {f:Form} (hl:Lim f) (hs:Shape f) {i:Int} (hi : -1099511627776<=i/\i<=1099511627776):∃ r,Ze f i (-1)=some r/\DownTo f i r:=by
 have hi64:In64 i:=by unfold In64;omega
 obtain ⟨b,hb,hbb⟩:=Z5I hl
 have holen:=Z1X (b:=31) hl.odd
 unfold Ze
 rw [hb]
 simp only [Y1]
 cases b with
 | true=>
  have hbare:=hbb.1 rfl;rw [cond_true];obtain ⟨p,h1,h2,h3⟩:=Z2X hl hs.inc i;rw [h3]
  -- the number of exceptions up to the index
  obtain ⟨q,hq1,hq2,hq3⟩ : ∃ q:Nat,q<=f.Odd.length/\(∀ (k:Nat) (g:Granule),f.Odd[k]? = some g->(k<q↔g.Index<=i))/\((bif (decide ((-1:Int)<0) && !decide (∃ g,f.Odd[p]? = some g/\g.Index=i)) then some (w64 ((p:Int)-1)) else some (p:Int)):Option Int)=some ((q:Int)-1):=by
   by_cases he:∃ g,f.Odd[p]? = some g/\g.Index=i
   ·obtain ⟨g,hg,hgi⟩:=he;have hpl:=(List.getElem?_eq_some_iff.1 hg).1;refine ⟨p+1,by omega,λk g' hk=>?_,by rw [Zd (p:=∃ g,f.Odd[p]? = some g/\g.Index=i) ⟨g,hg,hgi⟩];simp⟩
    have:=h2 k g' hk
    constructor
    ·intro h;rcases YF k p with h'|h'
     ·have:=this.1 h';omega
     ·have:k=p:=by omega
      subst this;rw [hg] at hk;cases hk;omega
    ·intro h;rcases YF p k with h'|h'
     ·have:=hs.inc p k g g' h' hg hk;omega
     ·omega
   ·refine ⟨p,h1,λk g' hk=>?_,by rw [Zr (p:=∃ g,f.Odd[p]? = some g/\g.Index=i) he,Zb (by omega)];simp⟩
    have:=h2 k g' hk
    constructor
    ·intro h;have:=this.1 h;omega
    ·intro h
     by_cases hgi:g'.Index=i
     ·exfalso
      have hkp:¬ k<p:=λh'=>by have:=this.1 h';omega
      rcases YF p k with h'|h'
      ·have hpl:p<f.Odd.length:=by have:=(List.getElem?_eq_some_iff.1 hk).1;omega
       have h5:=hs.inc p k _ g' h' (Y3 hpl) hk;have h6:=(h2 p _ (Y3 hpl)).2 (by omega)
       omega
      ·have:k=p:=by omega
       subst this;exact he ⟨g',hk,hgi⟩
     ·exact this.2 (by omega)
  simp only [Y1];rw [hq3];simp only [Y1];obtain ⟨r,hr,hpost⟩:=Z1b (step:=Ze.s0 f (-1)) (I:=λ(s:Int)=>∃ k:Nat,s=(k:Int)-1/\k<=q/\∀ (j:Nat) (g:Granule),f.Odd[j]? = some g->k<=j->j<q->g.Ticks=[]) (λs=>(s+1).toNat)
   (λr=>(∃ (k:Nat) (g:Granule),r = .ret (g.Index,true)/\f.Odd[k]? = some g/\k<q/\g.Ticks≠[]/\∀ (j:Nat) (g':Granule),f.Odd[j]? = some g'->k<j->j<q->g'.Ticks=[])\/(r = .go ()/\∀ (j:Nat) (g':Granule),f.Odd[j]? = some g'->j<q->g'.Ticks=[])) (by
   rintro s ⟨k,rfl,hk,hn⟩;unfold Ze.s0
   by_cases h0:0<k
   ·have hlt:k-1<f.Odd.length:=by omega
    rw [Zd (show (k:Int)-1>=0 by omega),Zd (show (k:Int)-1<f.Odd.length by omega),Yi,cond_true,show (k:Int)-1=((k-1:Nat):Int) by omega,at?_nat hlt,Zb (by omega)]
    simp only [Y1];have hget:=Y3 hlt
    by_cases hc:f.Odd[k-1].Ticks=[]
    ·rw [hc];refine .inl ⟨((k-1:Nat):Int) + -1,rfl,⟨k-1,by omega,by omega,λj g hj hpj hjk=>?_⟩,by simp;omega⟩
     rcases YF j k with h|h
     ·have:j=k-1:=by omega
      subst this;rw [hget] at hj;cases hj;exact hc
     ·exact hn j g hj h hjk
    ·rw [Zd (show ((f.Odd[k-1].Ticks.length:Int)>0) by have:=List.length_pos_iff.2 hc;omega),cond_true]
     exact .inr ⟨_,rfl,.inl ⟨k-1,_,rfl,hget,by omega,hc,λj g hj h1 h2=>hn j g hj (by omega) h2⟩⟩
   ·rw [Zr (show ¬ (k:Int)-1>=0 by omega),Y0E,cond_false]
    exact .inr ⟨_,rfl,.inr ⟨rfl,λj g hj hjq=>hn j g hj (by omega) hjq⟩⟩) ((q:Int)-1) ⟨q,rfl,YA _,λj g _ h h'=>by omega⟩
  rw [hr];simp only [Y1];rcases hpost with ⟨k,g,rfl,hk,hkq,hne,hn⟩|⟨rfl,hn⟩
  ·have hset:=Z0i hs.inc (Y6 hk);have hgi:=(hq2 k g hk).1 hkq;refine ⟨_,rfl,.inl ⟨rfl,hgi,(hs.odd g (Y6 hk)).2,by simp only;rw [hset];exact hne,λj hij hjg=>?_⟩⟩
   simp only at hjg
   by_cases ho:Z1T f j
   ·obtain ⟨g',hg',rfl⟩:=ho;obtain ⟨k',hk'⟩:=YD hg';rw [Z0i hs.inc hg'];refine hn k' g' hk' ?_ ((hq2 k' g' hk').2 hij);rcases YF k k' with h|h
    ·exact h
    ·rcases YF k' k with h'|h'
     ·have:=hs.inc k' k g' g h' hk' hk;omega
     ·have:k=k':=by omega
      subst this;rw [hk] at hk';cases hk';omega
   ·exact Z38 hs hbare ho
  ·refine ⟨_,rfl,.inr ⟨rfl,rfl,λj hij _=>?_⟩⟩
   by_cases ho:Z1T f j
   ·obtain ⟨g',hg',rfl⟩:=ho;obtain ⟨k',hk'⟩:=YD hg';rw [Z0i hs.inc hg'];exact hn k' g' hk' ((hq2 k' g' hk').2 hij)
   ·exact Z38 hs hbare ho
 | false=>
  rw [cond_false];obtain ⟨r,hr,hpost⟩:=Z1b (step:=Ze.s1 f (-1)) (I:=λ(s:Int)=>s<=i/\-1099511627777<=s/\∀ k,k<=i->s<k->ZS f k=[]) (λs=>(s+1099511627777).toNat)
   (λr=>(∃ j,r = .ret (j,true)/\j<=i/\ZB j/\ZS f j≠[]/\∀ k,k<=i->j<k->ZS f k=[])\/(r = .go ()/\∀ k,k<=i->ZB k->ZS f k=[])) (by
   rintro s ⟨hs1,hs2,hn⟩;unfold Ze.s1;rw [Z3R]
   by_cases ht:ZB s
   ·rw [Zd ht,cond_true,Z5N hl hs (Z19 ht),Zb (by unfold ZB at ht;omega)]
    simp only [Y1]
    by_cases hc:ZS f s=[]
    ·rw [hc];refine .inl ⟨s + -1,by simp,⟨by omega,by unfold ZB at ht;omega,λk hk hks=>?_⟩,by unfold ZB at ht;omega⟩
     by_cases h:k=s
     ·rw [h];exact hc
     ·exact hn k hk (by omega)
    ·rw [Zd hc,cond_true];exact .inr ⟨_,rfl,.inl ⟨s,rfl,hs1,ht,hc,hn⟩⟩
   ·rw [Zr ht,cond_false];exact .inr ⟨_,rfl,.inr ⟨rfl,λk hk htk=>hn k hk (by unfold ZB at ht htk;omega)⟩⟩) i ⟨Int.le_refl _,by omega,λk h h'=>by omega⟩
  rw [hr];simp only [Y1];rcases hpost with ⟨j,rfl,h1,h2,h3,h4⟩|⟨rfl,hn⟩
  ·exact ⟨_,rfl,.inl ⟨rfl,h1,h2,h3,h4⟩⟩
  ·exact ⟨_,rfl,.inr ⟨rfl,rfl,hn⟩⟩
def Above (f:Form) (i:Int) (r:Int×Bool):Prop:=(r.2=true/\i<r.1/\ZB r.1/\ZS f r.1≠[]/\∀ k,i<k->k<r.1->ZB k->ZS f k=[])\/(r.2=false/\r.1=0/\∀ k,i<k->ZB k->ZS f k=[])
def Under (f:Form) (i:Int) (r:Int×Bool):Prop:=(r.2=true/\r.1<i/\ZB r.1/\ZS f r.1≠[]/\∀ k,k<i->r.1<k->ZB k->ZS f k=[])\/(r.2=false/\r.1=0/\∀ k,k<i->ZB k->ZS f k=[])
theorem Z2I {f:Form} (hl:Lim f) (hs:Shape f) {i:Int} (hi:In64 i):∃ r,Z1F f i=some r/\Above f i r:=by
 unfold Z1F
 by_cases h:i>=1099511627776
 ·rw [Zd h,cond_true];exact ⟨_,rfl,.inr ⟨rfl,rfl,λk hk ht=>by unfold ZB at ht;omega⟩⟩
 ·rw [Zr h,cond_false,Zb (by unfold In64 at hi;omega)]
  have hm:iMax (i+1) (-1099511627776)=max (i+1) (-1099511627776):=by unfold iMax;omega
  rw [hm];obtain ⟨r,h1,h2⟩:=gran_step_up hl hs (i:=max (i+1) (-1099511627776)) (by omega)
  rw [h1];refine ⟨r,rfl,?_⟩;rcases h2 with ⟨a,b,c,d,e⟩|⟨a,b,e⟩
  ·exact .inl ⟨a,by omega,c,d,λk hk hkr ht=>e k (by unfold ZB at ht;omega) hkr⟩
  ·exact .inr ⟨a,b,λk hk ht=>e k (by have:=ht;unfold ZB at this;omega) ht⟩
theorem Z2F {f:Form} (hl:Lim f) (hs:Shape f) {i:Int} (hi:In64 i):∃ r,Z1G f i=some r/\Under f i r:=by
 unfold Z1G
 by_cases h:i<=-1099511627776
 ·rw [Zd h,cond_true];exact ⟨_,rfl,.inr ⟨rfl,rfl,λk hk ht=>by unfold ZB at ht;omega⟩⟩
 ·rw [Zr h,cond_false,Zb (by unfold In64 at hi;omega)]
  have hm:iMin (i-1) 1099511627776=min (i-1) 1099511627776:=by unfold iMin;omega
  rw [hm];obtain ⟨r,h1,h2⟩:=Z71 hl hs (i:=min (i-1) 1099511627776) (by omega)
  rw [h1];refine ⟨r,rfl,?_⟩;rcases h2 with ⟨a,b,c,d,e⟩|⟨a,b,e⟩
  ·exact .inl ⟨a,by omega,c,d,λk hk hkr ht=>e k (by unfold ZB at ht;omega) hkr⟩
  ·exact .inr ⟨a,b,λk hk ht=>e k (by have:=ht;unfold ZB at this;omega) ht⟩
end Go.Dn

namespace Go.Dn
open Go
def BesideR (f:Form) (i:Int) (lo hi:Int×Bool):Prop :=
 fits f i/\(lo.2=true->fits f lo.1/\Z1A (ZS f lo.1) (ZS f i))/\(hi.2=true->fits f hi.1/\Z1A (ZS f i) (ZS f hi.1))/\(lo.2=true->hi.2=true->Z1A (ZS f lo.1) (ZS f hi.1))
theorem aheadL_nil_l (b:List Span):Z1A [] b:=by intro x hx;cases hx
theorem aheadL_nil_r (a:List Span):Z1A a []:=by intro x _ y hy;cases hy
theorem Z5U {f:Form} (hl:Lim f) (hs:Shape f) (i:Int):Len (ZS f i):=by
 by_cases ho:Z1T f i
 ·obtain ⟨g,hg,rfl⟩:=ho;rw [Z0i hs.inc hg];exact (hl.ticks g hg).2.1
 ·by_cases h0:f.Count=0
  ·rw [Z0t ho h0];unfold Len;simp
  ·rw [Z0v ho h0];unfold Len;rw [YU];exact (hl.sets _ (Z0d hs h0 i).2).1
theorem Z5v {f:Form} (hs:Shape f) {i:Int} (hf:fits f i):RightL (ZS f i):=by
 by_cases ho:Z1T f i
 ·obtain ⟨g,hg,rfl⟩:=ho;rw [Z0i hs.inc hg];exact (hs.odd g hg).1
 ·by_cases h0:f.Count=0
  ·rw [Z0t ho h0];exact ⟨by simp,by simp⟩
  ·unfold fits at hf;rw [Z0v ho h0] at hf ⊢;exact (hs.core _ (Z0d hs h0 i).2).shift λs hs'=>hf (Z00 (Z25 f i) s) (List.mem_map.2 ⟨s,hs',rfl⟩)
theorem near_l {c:Bool} {X S:List Span}:Z1A (if c=true then X else []) S↔(c=true->Z1A X S):=by
 cases c
 ·simp [aheadL_nil_l]
 ·simp
theorem near_r {c:Bool} {X S:List Span}:Z1A S (if c=true then X else [])↔(c=true->Z1A S X):=by
 cases c
 ·simp [aheadL_nil_r]
 ·simp
noncomputable def sideG (f:Form) (r:Int×Bool):Option (Jx (List Span) Bool) :=
 (bif r.2 then (Z0U f r.1).bind λx=>(bif (x.2 != 0) then some (.ret false) else some (.go x.1)) else some (.go []))
open Classical in
theorem sideG_eq {f:Form} (hl:Lim f) (hs:Shape f) {r:Int×Bool} (ht:r.2=true->ZB r.1):(r.2=true/\¬ fits f r.1/\sideG f r=some (.ret false))\/((r.2=true->fits f r.1)/\sideG f r=some (.go (if r.2=true then ZS f r.1 else []))):=by
 obtain ⟨j,c⟩:=r
 unfold sideG
 cases c with
 | false=>exact .inr ⟨by simp,by simp⟩
 | true=>
  simp only [cond_true];rw [Z3m hl hs (Z19 (ht rfl))]
  by_cases hfl:fits f j
  ·rw [if_pos ⟨ht rfl,hfl⟩];exact .inr ⟨λ_=>hfl,by simp⟩
  ·rw [if_neg (λh=>hfl h.2)];exact .inl ⟨trivial,hfl,rfl⟩
open Classical in
theorem Z6k {f:Form} (hl:Lim f) (hs:Shape f) {i:Int} (hi:ZB i) {lo hi':Int×Bool} (hlo:Z1G f i=some lo) (hhi:Z1F f i=some hi') (tlo:lo.2=true->ZB lo.1) (thi:hi'.2=true->ZB hi'.1) :
  ∃ b,Z0r f i=some b/\(b=true↔BesideR f i lo hi'):=by
 have e:Z0r f i=(Z0U f i).bind λx1=>(bif (x1.2 != 0) then some false else (sideG f lo).bind λy1=>y1.elim (λr'=>some r') λa2=>(sideG f hi').bind λy2=>y2.elim (λr'=>some r') λa4=>
   (Z0G a2 x1.1).bind λx6=>((bif x6 then (Z0G x1.1 a4).bind λx7=>some x7 else some false)).bind λy3=>((bif y3 then (Z0G a2 a4).bind λx8=>some x8 else some false)).bind λy4=>some y4):=by
  unfold Z0r sideG;rw [hlo,hhi];simp only [Y1]
 rw [e,Z3m hl hs (Z19 hi)]
 clear e
 by_cases hf:fits f i
 ·rw [if_pos ⟨hi,hf⟩];simp only [Y1,bne_self_eq_false,cond_false];rcases sideG_eq hl hs tlo with ⟨h1,h2,h0⟩|⟨h1,h0⟩
  ·rw [h0];exact ⟨false,rfl,λh=>(by cases h),λh=>absurd (h.2.1 h1).1 h2⟩
  ·rw [h0];simp only [Y1,Jx.elim];rcases sideG_eq hl hs thi with ⟨h3,h4,h0'⟩|⟨h3,h0'⟩
   ·rw [h0'];exact ⟨false,rfl,λh=>(by cases h),λh=>absurd (h.2.2.1 h3).1 h4⟩
   ·rw [h0'];simp only [Y1];have lenA:Len (if lo.2=true then ZS f lo.1 else []):=by
     by_cases hc:lo.2=true
     ·rw [if_pos hc];exact Z5U hl hs _
     ·rw [if_neg hc];unfold Len;simp
    generalize hA:(if lo.2=true then ZS f lo.1 else [])=A at lenA;generalize hB:(if hi'.2=true then ZS f hi'.1 else [])=B;obtain ⟨r1,q1,p1⟩:=Z2H (b:=ZS f i) lenA;obtain ⟨r2,q2,p2⟩:=Z2H (a:=ZS f i) (b:=B) (Z5U hl hs i);obtain ⟨r3,q3,p3⟩:=Z2H (b:=B) lenA;rw [q1,q2,q3];subst hA hB;rw [near_l] at p1;rw [near_r] at p2;rw [near_l,near_r] at p3;refine ⟨r1&&r2&&r3,by cases r1<;>cases r2<;>rfl,?_⟩
    rw [Y8,Y8,p1,p2,p3]
    constructor
    ·rintro ⟨⟨a,b⟩,c⟩;exact ⟨hf,λh=>⟨h1 h,a h⟩,λh=>⟨h3 h,b h⟩,c⟩
    ·rintro ⟨_,a,b,c⟩;exact ⟨⟨λh=>(a h).2,λh=>(b h).2⟩,c⟩
 ·rw [if_neg (λh=>hf h.2)];exact ⟨false,rfl,λh=>(by cases h),λh=>absurd h.1 hf⟩
def Beside (f:Form) (i:Int):Prop:=∀ lo hi,Under f i lo->Above f i hi->BesideR f i lo hi
theorem Under.uniq {f:Form} {i:Int} {r r':Int×Bool} (h:Under f i r) (h':Under f i r'):r=r':=by
 obtain ⟨a,b⟩:=r
 obtain ⟨a',b'⟩:=r'
 rcases h with ⟨rfl,h1,h2,h3,h4⟩|⟨rfl,rfl,h4⟩<;>rcases h' with ⟨rfl,k1,k2,k3,k4⟩|⟨rfl,rfl,k4⟩
 ·simp only at *
  rcases Int.lt_trichotomy a a' with h|h|h
  ·exact absurd (h4 a' k1 h k2) k3
  ·rw [h]
  ·exact absurd (k4 a h1 h h2) h3
 ·exact absurd (k4 a h1 h2) h3
 ·exact absurd (h4 a' k1 k2) k3
 ·rfl
theorem Above.uniq {f:Form} {i:Int} {r r':Int×Bool} (h:Above f i r) (h':Above f i r'):r=r':=by
 obtain ⟨a,b⟩:=r
 obtain ⟨a',b'⟩:=r'
 rcases h with ⟨rfl,h1,h2,h3,h4⟩|⟨rfl,rfl,h4⟩<;>rcases h' with ⟨rfl,k1,k2,k3,k4⟩|⟨rfl,rfl,k4⟩
 ·simp only at *
  rcases Int.lt_trichotomy a a' with h|h|h
  ·exact absurd (k4 a h1 h h2) h3
  ·rw [h]
  ·exact absurd (h4 a' k1 h k2) k3
 ·exact absurd (k4 a h1 h2) h3
 ·exact absurd (h4 a' k1 k2) k3
 ·rfl
theorem Z6H {f:Form} (hl:Lim f) (hs:Shape f) {i:Int} (hi:ZB i):∃ b,Z0r f i=some b/\(b=true↔Beside f i):=by
 obtain ⟨lo,h1,h2⟩:=Z2F hl hs (Z19 hi)
 obtain ⟨hi',h3,h4⟩:=Z2I hl hs (Z19 hi)
 obtain ⟨b,h5,h6⟩:=Z6k hl hs hi h1 h3 (λh=>by rcases h2 with ⟨_,_,h,_⟩|⟨h',_⟩<;>simp_all) (λh=>by rcases h4 with ⟨_,_,h,_⟩|⟨h',_⟩<;>simp_all)
 refine ⟨b,h5,h6.trans ⟨λh lo' hi'' q1 q2=>?_,λh=>h lo hi' h2 h4⟩⟩
 rw [q1.uniq h2,q2.uniq h4];exact h
def sizeF (f:Form):Nat:=(f.Core.map List.length).sum+(f.Odd.map (·.Ticks.length)).sum
theorem sum_take {α:Type} (g:α->Nat) {l:List α} {k:Nat} (h:k<l.length):((l.take (k+1)).map g).sum=((l.take k).map g).sum+g l[k]:=by
 rw [Y0B h,Y03,List.sum_append];simp
theorem Z4y {f:Form} (hl:Lim f) (hc:f.Core.length<=6000) (ho:f.Odd.length<=6000):Zs f=some (sizeF f:Int):=by
 have hr:=Z0P
 have lenC:∀ l∈f.Core,l.length<=8796093022207:=λl hm=>by have:=(hl.sets l hm).1;unfold Len at this;omega
 have lenO:∀ g∈f.Odd,g.Ticks.length<=8796093022207:=λl hm=>by have:=(hl.ticks l hm).2.1;unfold Len at this;omega
 obtain ⟨a,h1,h2,h3⟩:=fold_loop (l:=f.Core) (step:=Zs.s0 f) (f:=λa _ x=>a+(x.length:Int)) (fin:=id) (a0:=(0:Int)) (λk a=>a=((((f.Core.take k).map List.length).sum:Nat):Int)/\a<=k*8796093022207) ⟨by simp,by simp⟩ (λk x a hk ⟨ha,hb⟩=>by
   obtain ⟨q1,q2⟩:=Z5R hk;have hx:=lenC x (Y6 hk);have hkl:k<f.Core.length:=by omega
   have h0:0<=a:=by rw [ha];omega
   unfold Zs.s0;simp only;rw [Zd q2,cond_true,q1,Zb (x:=(k:Int)+1) (by omega)]
   simp only [Y1];rw [Zb (x:=a+(x.length:Int)) (by omega)]
   refine ⟨rfl,?_,by push_cast;omega⟩
   rw [sum_take _ hkl];rw [Y3 hkl] at hk;cases hk;rw [ha];push_cast;rfl) (λa _=>by unfold Zs.s0;simp only;rw [Zr (by omega)];rfl)
 rw [Y0F] at h2
 obtain ⟨b,h4,h5,h6⟩:=fold_loop (l:=f.Odd) (step:=Zs.s1 f) (f:=λa _ x=>a+(x.Ticks.length:Int)) (fin:=id) (a0:=a) (λk b=>b=a+((((f.Odd.take k).map (·.Ticks.length)).sum:Nat):Int)/\b<=a+k*8796093022207) ⟨by simp,by simp⟩ (λk x b hk ⟨ha,hb⟩=>by
   obtain ⟨q1,q2⟩:=Z5R hk;have hx:=lenO x (Y6 hk);have hkl:k<f.Odd.length:=by omega
   have h0:0<=b:=by rw [ha,h2];omega
   unfold Zs.s1;simp only;rw [Zd q2,cond_true,q1,Zb (x:=(k:Int)+1) (by omega)]
   simp only [Y1];rw [Zb (x:=b+(x.Ticks.length:Int)) (by omega)]
   refine ⟨rfl,?_,by push_cast;omega⟩
   rw [sum_take _ hkl];rw [Y3 hkl] at hk;cases hk;rw [ha];push_cast;omega) (λa _=>by unfold Zs.s1;simp only;rw [Zr (by omega)];rfl)
 rw [Y0F] at h5
 unfold Zs
 rw [h1]
 simp only [Y1,id]
 rw [h4]
 simp only [Y1,id,h5,h2,sizeF]
 push_cast;rfl
structure RightF (f:Form):Prop where
 shape:Shape f
 turns:Turns f
 beside:∀ g∈f.Odd,Beside f g.Index
def LongF (f:Form):Prop:=6000<f.Core.length\/6000<f.Odd.length\/60000<sizeF f
theorem gran_Right_eq {f:Form} (hl:Lim f):(LongF f/\Z03 f=some 3)\/(¬ LongF f/\RightF f/\Z03 f=some 0)\/(¬ LongF f/\¬ RightF f/\Z03 f=some 50):=by
 have holen:=Z1X (b:=31) hl.odd
 unfold Z03
 by_cases h1:6000<f.Core.length\/6000<f.Odd.length
 ·have e:(decide ((f.Core.length:Int)>6000)||decide ((f.Odd.length:Int)>6000))=true:=by
   rcases h1 with h|h
   ·rw [Zd (show (f.Core.length:Int)>6000 by omega)];rfl
   ·rw [Zd (show (f.Odd.length:Int)>6000 by omega)];simp
  rw [e];exact .inl ⟨h1.elim .inl (λh=>.inr (.inl h)),rfl⟩
 ·have e:(decide ((f.Core.length:Int)>6000)||decide ((f.Odd.length:Int)>6000))=false:=by
   rw [Zr (show ¬ (f.Core.length:Int)>6000 by omega),Zr (show ¬ (f.Odd.length:Int)>6000 by omega)];rfl
  rw [e,cond_false,Z4y hl (by omega) (by omega)]
  simp only [Y1]
  by_cases h2:60000<sizeF f
  ·rw [Zd (show (sizeF f:Int)>60000 by omega)]
   exact .inl ⟨.inr (.inr h2),rfl⟩
  ·have hnl:¬ LongF f:=by unfold LongF;omega
   rw [Zr (show ¬ (sizeF f:Int)>60000 by omega),cond_false]
   obtain ⟨b,hb,hbs⟩:=gran_shape_eq hl
   rw [hb];simp only [Y1];refine .inr ?_;cases b with
   | false=>exact .inr ⟨hnl,λh=>(by have:=hbs.2 h.shape;cases this),rfl⟩
   | true=>
    have hs:=hbs.1 rfl;obtain ⟨c,hc,hct⟩:=gran_turns_eq hl hs
    rw [hc];simp only [Y1,Y0K,cond_false];cases c with
    | false=>exact .inr ⟨hnl,λh=>(by have:=hct.2 h.turns;cases this),rfl⟩
    | true=>
     simp only [Y0K,cond_false];rcases Z2s (l:=f.Odd) (step:=Z03.s0 f) (λ_ g=>Beside f g.Index) (no:=.ret 50) (yes:=.go ()) (λk g hk _=>by
       obtain ⟨q1,q2⟩:=Z5R hk;obtain ⟨b,hb,hbb⟩:=Z6H hl hs (hs.odd g (Y6 hk)).2;unfold Z03.s0;rw [Zd q2,cond_true,q1,Zb (by omega)]
       simp only [Y1,hb];cases b
       ·exact .inr ⟨rfl,λh=>by have:=hbb.2 h;cases this⟩
       ·exact .inl ⟨rfl,hbb.1 rfl⟩) (by unfold Z03.s0;rw [Zr (by omega)];rfl) with ⟨q1,q2⟩|⟨q1,q2⟩
     ·rw [q1];exact .inl ⟨hnl,⟨hs,hct.1 rfl,λg hg=>by obtain ⟨k,hk⟩:=YD hg;exact q2 k g hk⟩,rfl⟩
     ·rw [q1];exact .inr ⟨hnl,λh=>q2 λk g hk=>h.beside g (Y6 hk),rfl⟩
def SmallF (f:Form):Prop:=f.Core.length<=12/\f.Odd.length<=8/\sizeF f<=60
theorem Z4K {f:Form} (hl:Lim f):∃ b,Z0V f=some b/\(b=true↔SmallF f):=by
 unfold Z0V
 by_cases h:f.Core.length<=12/\f.Odd.length<=8
 ·rw [Zd (show (f.Core.length:Int)<=12 by omega),Zd (show (f.Odd.length:Int)<=8 by omega),Z4y hl (by omega) (by omega)]
  refine ⟨decide ((sizeF f:Int)<=60),rfl,?_⟩;rw [decide_eq_true_iff];exact ⟨λh'=>⟨h.1,h.2,by omega⟩,λh'=>by have:=h'.2.2;omega⟩
 ·have e:(decide ((f.Core.length:Int)<=12)&&decide ((f.Odd.length:Int)<=8))=false:=by
   by_cases h1:f.Core.length<=12
   ·rw [Zr (show ¬ (f.Odd.length:Int)<=8 by omega)];simp
   ·rw [Zr (show ¬ (f.Core.length:Int)<=12 by omega)];rfl
  rw [e];exact ⟨false,rfl,λh=>(by cases h),λh'=>absurd ⟨h'.1,h'.2.1⟩ h⟩
theorem Z4N {f:Form} (hl:Lim f):∃ b,Z0H f=some b/\(b=true↔SmallF f/\RightF f):=by
 unfold Z0H
 obtain ⟨b,hb,hbs⟩:=Z4K hl
 rw [hb]
 simp only [Y1]
 cases b with
 | false=>exact ⟨false,rfl,λh=>(by cases h),λh=>by have:=hbs.2 h.1;cases this⟩
 | true=>
  have hsm:=hbs.1 rfl;have hnl:¬ LongF f:=by unfold LongF;have:=hsm.1;have:=hsm.2.1;have:=hsm.2.2;omega
  rw [cond_true];rcases gran_Right_eq hl with ⟨h,_⟩|⟨_,h1,h2⟩|⟨_,h1,h2⟩
  ·exact absurd h hnl
  ·rw [h2];exact ⟨true,rfl,λ_=>⟨hsm,h1⟩,λ_=>rfl⟩
  ·rw [h2];exact ⟨false,rfl,λh=>(by cases h),λh=>absurd h.2 h1⟩
end Go.Dn

namespace Go.Dn
open Go
theorem Z2j {f:Form} {l:List Span}:l∈full f↔l∈f.Core/\l≠[]:=by
 unfold full
 rw [List.mem_filter,decide_eq_true_iff,gt_iff_lt,List.length_pos_iff]
theorem full_pair {f:Form} (hs:Shape f) (ht:Turns f):(full f).Pairwise (λa b=>lstT a<fstT b):=by
 have hm:∀ x∈full f,fstT x<=lstT x:=λx hx=>Z3E (hs.core x (Z2j.1 hx).1) (Z2j.1 hx).2
 have h1:=ht.1
 generalize full f=l at hm h1
 induction l with
 | nil=>exact .nil
 | cons x l ih=>
  have ih:=ih (λy hy=>hm y (YH _ hy)) (λk a b ha hb=>h1 (k+1) a b ha hb);refine List.pairwise_cons.2 ⟨λy hy=>?_,ih⟩
  cases l with
  | nil=>cases hy
  | cons z l=>
   have hxz:=h1 0 x z rfl rfl;rcases List.mem_cons.1 hy with rfl|hy
   ·exact hxz
   ·have:=(List.pairwise_cons.1 ih).1 y hy;have:=hm z (by simp)
    omega
theorem core_pair {f:Form} (hs:Shape f) (ht:Turns f) {j k:Nat} {a b:List Span} (hjk:j<k) (ha:f.Core[j]? = some a) (hb:f.Core[k]? = some b) (na:a≠[]) (nb:b≠[]):lstT a<fstT b:=by
 have h:=full_pair hs ht
 unfold full at h
 rw [List.pairwise_filter] at h
 have hj:=(List.getElem?_eq_some_iff.1 ha)
 have hk:=(List.getElem?_eq_some_iff.1 hb)
 obtain ⟨hj,rfl⟩:=hj
 obtain ⟨hk,rfl⟩:=hk
 exact List.pairwise_iff_getElem.1 h j k hj hk hjk (by rw [decide_eq_true_iff];exact List.length_pos_iff.2 na) (by rw [decide_eq_true_iff];exact List.length_pos_iff.2 nb)
theorem core_turn {f:Form} (hs:Shape f) (ht:Turns f) {a b:List Span} (ha:a∈f.Core) (hb:b∈f.Core) (na:a≠[]) (nb:b≠[]):lstT a<fstT b+f.Period:=by
 have hA:=Z2j.2 ⟨ha,na⟩
 have hB:=Z2j.2 ⟨hb,nb⟩
 have hm:∀ x∈full f,fstT x<=lstT x:=λx hx=>Z3E (hs.core x (Z2j.1 hx).1) (Z2j.1 hx).2
 have hn:full f≠[]:=List.ne_nil_of_mem hA
 have hlast:=Y01 hn
 have hhead:=Y02 hn
 have h2:=ht.2 _ _ hlast hhead
 have hp:=full_pair hs ht
 have e1:lstT a<=lstT ((full f).getLast hn):=by
  obtain ⟨j,hj⟩:=YD hA;obtain ⟨hjl,hj⟩:=List.getElem?_eq_some_iff.1 hj
  by_cases hc:j=(full f).length-1
  ·subst hc;rw [List.getLast_eq_getElem,hj];exact Int.le_refl _
  ·have:=List.pairwise_iff_getElem.1 hp j ((full f).length-1) hjl (by omega) (by omega)
   rw [hj] at this;have h5:=hm _ (List.getLast_mem hn);rw [List.getLast_eq_getElem] at h5 ⊢;omega
 have e2:fstT ((full f).head hn)<=fstT b:=by
  obtain ⟨j,hj⟩:=YD hB;obtain ⟨hjl,hj⟩:=List.getElem?_eq_some_iff.1 hj;have hh:(full f).head hn=(full f)[0]'(by omega):=List.head_eq_getElem hn
  by_cases hc:j=0
  ·subst hc;rw [hh,hj];exact Int.le_refl _
  ·have:=List.pairwise_iff_getElem.1 hp 0 j (by omega) hjl (by omega)
   rw [hj,<- hh] at this;have h5:=hm _ (List.head_mem hn);omega
 omega
theorem Z6a {f:Form} (hs:Shape f) (h0:f.Count≠0) (i:Int):f.Core[(i % f.Count).toNat]? = some (Z0e f i):=by
 have:=(Z0d hs h0 i).1
 unfold at? at this
 rwa [if_pos (Y04 i h0)] at this
theorem core_order {f:Form} (hs:Shape f) (ht:Turns f) (h0:f.Count≠0) {i k:Int} (hik:i<k) (ni:Z0e f i≠[]) (nk:Z0e f k≠[]):lstT (Z0e f i)+Z25 f i<fstT (Z0e f k)+Z25 f k:=by
 have hp:=Z53 hs h0
 have di:=Int.emod_add_mul_ediv i f.Count
 have dk:=Int.emod_add_mul_ediv k f.Count
 have mi:=Y04 i h0
 have mk:=Y04 k h0
 have li:=Y0W i hp
 have lk:=Y0W k hp
 have hq:i / f.Count<=k / f.Count:=Int.ediv_le_ediv hp (by omega)
 unfold Z25
 rcases Int.lt_or_eq_of_le hq with h|h
 ·have h1:=core_turn hs ht (Z0d hs h0 i).2 (Z0d hs h0 k).2 ni nk;have h2:(i / f.Count+1)*f.Period<=k / f.Count*f.Period:=Int.mul_le_mul_of_nonneg_right (by omega) hs.per.1
  rw [Int.add_mul,Int.one_mul] at h2;omega
 ·rw [h] at di ⊢;have:i % f.Count<k % f.Count:=by omega
  have h1:=core_pair hs ht (j:=(i % f.Count).toNat) (k:=(k % f.Count).toNat) (by omega) (Z6a hs h0 i) (Z6a hs h0 k) ni nk
  omega
theorem lst_shift {l:List Span} (d:Int) (hn:l≠[]):lstT (l.map (Z00 d))=lstT l+d/\fstT (l.map (Z00 d))=fstT l+d:=by
 unfold lstT fstT
 rw [List.getLast?_map,List.head?_map,Y01 hn,Y02 hn]
 exact ⟨rfl,rfl⟩
theorem under_some {f:Form} (hl:Lim f) (hs:Shape f) {i k:Int} (hk:In64 k) (hik:i<k) (ti:ZB i) (ni:ZS f i≠[]):∃ j,Under f k (j,true)/\i<=j:=by
 obtain ⟨r,_,h⟩:=Z2F hl hs hk
 obtain ⟨j,b⟩:=r
 have h':=h
 rcases h with ⟨rfl,h1,h2,h3,h4⟩|⟨rfl,_,h4⟩
 ·refine ⟨j,h',?_⟩;apply Classical.byContradiction;intro hc;exact ni (h4 i hik (by simp only;omega) ti)
 ·exact absurd (h4 i hik ti) ni
theorem above_some {f:Form} (hl:Lim f) (hs:Shape f) {i k:Int} (hk:In64 k) (hik:k<i) (ti:ZB i) (ni:ZS f i≠[]):∃ j,Above f k (j,true)/\j<=i:=by
 obtain ⟨r,_,h⟩:=Z2I hl hs hk
 obtain ⟨j,b⟩:=r
 have h':=h
 rcases h with ⟨rfl,h1,h2,h3,h4⟩|⟨rfl,_,h4⟩
 ·refine ⟨j,h',?_⟩;apply Classical.byContradiction;intro hc;exact ni (h4 i hik (by simp only;omega) ti)
 ·exact absurd (h4 i hik ti) ni
theorem RightF.order {f:Form} (hl:Lim f) (hr:RightF f):∀ (n:Nat) (i k:Int),(k-i).toNat=n->i<k->ZB i->ZB k->fits f i->fits f k->ZS f i≠[]->ZS f k≠[]->lstT (ZS f i)<fstT (ZS f k):=by
 have hs:=hr.shape
 intro n
 induction n using Nat.strongRecOn with
 | _ n ih=>
  intro i k hn hik ti tk fi fk ni nk
  by_cases ok:Z1T f k
  ·obtain ⟨g,hg,rfl⟩:=ok;obtain ⟨j,hj,hij⟩:=under_some hl hs (Z19 tk) hik ti ni;obtain ⟨hi',_,hab⟩:=Z2I hl hs (Z19 tk);obtain ⟨_,hlo,_,_⟩:=hr.beside g hg _ _ hj hab;obtain ⟨fj,aj⟩:=hlo rfl;have hj2:=hj;rcases hj2 with ⟨_,j1,j2,j3,j4⟩|⟨h,_⟩
   ·simp only at fj aj j1 j2 j3;have hjk:=(Z6Y j3 nk).1 aj
    by_cases hji:i=j
    ·rw [hji];exact hjk
    ·have h1:=ih (j-i).toNat (by omega) i j rfl (by omega) ti j2 fi fj ni j3
     have h2:=Z3E (Z5v hs fj) j3;omega
   ·cases h
  ·by_cases oi:Z1T f i
   ·obtain ⟨g,hg,rfl⟩:=oi;obtain ⟨j,hj,hij⟩:=above_some hl hs (Z19 ti) hik tk nk;obtain ⟨lo',_,hun⟩:=Z2F hl hs (Z19 ti);obtain ⟨_,_,hhi,_⟩:=hr.beside g hg _ _ hun hj;obtain ⟨fj,aj⟩:=hhi rfl;have hj2:=hj;rcases hj2 with ⟨_,j1,j2,j3,j4⟩|⟨h,_⟩
    ·simp only at fj aj j1 j2 j3;have hjk:=(Z6Y ni j3).1 aj
     by_cases hji:j=k
     ·rw [<- hji];exact hjk
     ·have h1:=ih (k-j).toNat (by omega) j k rfl (by omega) j2 tk fj fk j3 nk
      have h2:=Z3E (Z5v hs fj) j3;omega
    ·cases h
   ·have h0:f.Count≠0:=λh=>ni (Z0t oi h);have ni':=λh=>ni ((Z0Y oi h0).2 h);have nk':=λh=>nk ((Z0Y ok h0).2 h);rw [Z0v oi h0,Z0v ok h0,(lst_shift _ ni').1,(lst_shift _ nk').2];exact core_order hs hr.turns h0 hik ni' nk'
end Go.Dn

namespace Go.Dn
open Go
theorem Above.tick {f:Form} {i:Int} {r:Int×Bool} (h:Above f i r) (hr:r.2=true):i<r.1/\ZB r.1/\ZS f r.1≠[]/\∀ k,i<k->k<r.1->ZB k->ZS f k=[]:=by
 rcases h with ⟨_,h1,h2,h3,h4⟩|⟨h,_⟩
 ·exact ⟨h1,h2,h3,h4⟩
 ·rw [hr] at h;cases h
theorem Under.tick {f:Form} {i:Int} {r:Int×Bool} (h:Under f i r) (hr:r.2=true):r.1<i/\ZB r.1/\ZS f r.1≠[]/\∀ k,k<i->r.1<k->ZB k->ZS f k=[]:=by
 rcases h with ⟨_,h1,h2,h3,h4⟩|⟨h,_⟩
 ·exact ⟨h1,h2,h3,h4⟩
 ·rw [hr] at h;cases h
end Go.Dn

namespace Go.Dn
open Go
theorem eqf_loop {α β:Type} {a:List α} {b:List β} {step:Int->Option (Int⊕Jx Unit Bool)} {eq:α->β->Option Bool} (P:α->β->Prop)
  (hl:(a.length:Int)<9223372036854775807) (hab:a.length=b.length)
  (heq:∀ (k:Nat) x y,a[k]? = some x->b[k]? = some y->∃ r,eq x y=some r/\(r=true↔P x y))
  (hstep:∀ s,step s=bif decide (s<(a.length:Int)) then (at? a s).bind λx1=>(at? b s).bind λx2=>(eq x1 x2).bind λx3=>bif (!x3) then some (.inr (.ret false)) else some (.inl (w64 (s+1))) else some (.inr (.go ()))) :
  (loopO step 0=some (.go ())/\∀ (k:Nat) x y,a[k]? = some x->b[k]? = some y->P x y)\/(loopO step 0=some (.ret false)/\¬ ∀ (k:Nat) x y,a[k]? = some x->b[k]? = some y->P x y):=by
 rcases Z2s (l:=a) (step:=step) (λk x=>∀ y,b[k]? = some y->P x y) (no:=.ret false) (yes:=.go ()) (λk x hk hp=>by
  have hlt:=(List.getElem?_eq_some_iff.1 hk).1;have hat:at? a (k:Int)=some x:=by rw [at?_nat hlt];rw [Y3 hlt] at hk;exact hk
  have hbt:at? b (k:Int)=some (b[k]'(by omega)):=at?_nat (by omega)
  have hbk:b[k]? = some (b[k]'(by omega)):=Y3 (by omega)
  obtain ⟨r,h1,h2⟩:=heq k x _ hk hbk;rw [hstep,Zd (show (k:Int)<a.length by omega),cond_true,hat,hbt,Zb (show _ by omega)]
  simp only [Y1,h1];cases r with
  | true=>exact .inl ⟨rfl,λy hy=>by rw [hbk] at hy;cases hy;exact h2.1 rfl⟩
  | false=>exact .inr ⟨rfl,λh=>by have:=h2.2 (h _ hbk);cases this⟩) (by
  rw [hstep,Zr (by omega)];rfl) with ⟨h1,h2⟩|⟨h1,h2⟩
 ·exact .inl ⟨h1,λk x y hx hy=>h2 k x hx y hy⟩
 ·exact .inr ⟨h1,λh=>h2 λk x hx y hy=>h k x y hx hy⟩
end Go.Dn

namespace Go.Dn
open Go
noncomputable def cs (f:Form) (i:Int):List Span:=(Z0e f i).map (Z00 (Z25 f i))
theorem Z3y (l:List Span) (a b:Int):(l.map (Z00 a)).map (Z00 b)=l.map (Z00 (a+b)):=by
 rw [List.map_map]
 congr 1
 funext s
 simp only [Function.comp,Z00,Span.mk.injEq]
 omega
theorem cs_period {f:Form} (h0:f.Count≠0) (i:Int):cs f (i+f.Count)=(cs f i).map (Z00 f.Period):=by
 unfold cs Z0e Z25
 rw [Z3y,Int.add_emod_right,Int.add_ediv_of_dvd_right (Int.dvd_refl _),Int.ediv_self h0,Int.add_mul,Int.one_mul]
theorem cs_small {f:Form} {i:Int} (h0:0<=i) (h1:i<f.Count):cs f i=f.Core.getD i.toNat []:=by
 unfold cs Z0e Z25
 rw [Int.emod_eq_of_lt h0 h1,Int.ediv_eq_zero_of_lt h0 h1,Int.zero_mul,shift0]
def TurnZ (f:Form) (d q:Int):Prop:=∀ i,cs f (i+d)=(cs f i).map (Z00 q)
def wrapI (f:Form) (d k:Int):Int:=if k+d>=f.Count then k+d-f.Count else k+d
def wrapP (f:Form) (d k:Int):Int:=if k+d>=f.Count then f.Period else 0
end Go.Dn

namespace Go.Dn
open Go
structure Good (f:Form) (d:Int):Prop where
 pos:1<=d
 dvd:d∣f.Count
 rest:f.Period % (f.Count / d)=0
 turn:TurnZ f d (f.Period / (f.Count / d))
end Go.Dn

namespace Go.Dn
open Go
def Turn (h:Int->List Span) (d q:Int):Prop:=∀ i,h (i+d)=(h i).map (Z00 q)
theorem Turn.neg {h:Int->List Span} {d q:Int} (t:Turn h d q):Turn h (-d) (-q):=λi=>by
 have:=t (i + -d)
 rw [show i + -d+d=i by omega] at this
 rw [this,Z3y,Int.add_right_neg,shift0]
theorem Turn.add {h:Int->List Span} {d q d' q':Int} (t:Turn h d q) (t':Turn h d' q'):Turn h (d+d') (q+q'):=λi=>by
 rw [show i+(d+d')=(i+d)+d' by omega,t',t,Z3y]
theorem Turn.zero (h:Int->List Span):Turn h 0 0:=λi=>by rw [Int.add_zero,shift0]
theorem Turn.nat {h:Int->List Span} {d q:Int} (t:Turn h d q):∀ k:Nat,Turn h (k*d) (k*q)
 | 0=>by simpa using Turn.zero h
 | k+1=>by
  have:=(Turn.nat t k).add t;push_cast;rw [Int.add_mul,Int.one_mul,Int.add_mul,Int.one_mul];exact this
theorem Turn.mul {h:Int->List Span} {d q:Int} (t:Turn h d q) (k:Int):Turn h (k*d) (k*q):=by
 rcases Int.natAbs_eq k with e|e
 ·rw [e];exact t.nat _
 ·rw [e,Int.neg_mul,Int.neg_mul];exact (t.nat _).neg
theorem Turn.agree {h h':Int->List Span} {d q a:Int} (t:Turn h d q) (t':Turn h' d q) (hd:0<d) (he:∀ i,a<=i->i<a+d->h i=h' i):h=h':=by
 funext i
 have e:i=((i-a) % d+a)+(i-a) / d*d:=by
  have:=Int.emod_add_mul_ediv (i-a) d;rw [Int.mul_comm] at this;omega
 have h1:=Y04 (i-a) (show d≠0 by omega)
 have h2:=Y0W (i-a) hd
 rw [e,t.mul,t'.mul,he _ (by omega) (by omega)]
noncomputable def csz (f:Form) (i:Int):List Span:=if f.Count=0 then [] else cs f i
theorem csz_pos {f:Form} (h0:0<f.Count):csz f=cs f:=by funext i;exact if_neg (by omega)
theorem setAt_csz {f:Form} {i:Int} (h:¬ Z1T f i):ZS f i=csz f i:=by
 unfold csz
 by_cases h0:f.Count=0
 ·rw [if_pos h0,Z0t h h0]
 ·rw [if_neg h0,Z0v h h0];rfl
theorem csz_bare {f:Form} (hs:Shape f) (hb:Bare f) (i:Int):csz f i=[]:=by
 unfold csz
 by_cases h0:f.Count=0
 ·rw [if_pos h0]
 ·rw [if_neg h0];unfold cs;rw [hb _ (Z0d hs h0 i).2];rfl
def Z2b (f c:Form):Prop:=(Bare f/\c=Form.mk 0 0 [] [])\/(¬ Bare f/\0<f.Count/\∃ d,Good f d/\(∀ d',Good f d'->d<=d')/\c=Form.mk (f.Period / (f.Count / d)) d (f.Core.take d.toNat) [])
theorem Z2b.odd {f c:Form} (h:Z2b f c):c.Odd=[]:=by
 rcases h with ⟨_,rfl⟩|⟨_,_,d,_,_,rfl⟩<;>rfl
theorem Z2b.csz {f c:Form} (hs:Shape f) (h:Z2b f c):csz c=csz f:=by
 rcases h with ⟨hb,rfl⟩|⟨hb,h0,d,hg,_,rfl⟩
 ·funext i;rw [csz_bare hs hb];rfl
 ·have hd:=hg.pos;have hdn:d<=f.Count:=Int.le_of_dvd h0 hg.dvd;have hcnt:=hs.count;rw [csz_pos h0,csz_pos (show 0<(Form.mk (f.Period / (f.Count / d)) d (f.Core.take d.toNat) []).Count by show 0<d;omega)]
  refine Turn.agree (a:=0) (d:=d) (q:=f.Period / (f.Count / d)) (cs_period (f:=Form.mk (f.Period / (f.Count / d)) d (f.Core.take d.toNat) []) (show d≠0 by omega)) hg.turn (by omega) (λi i0 i1=>?_)
  rw [cs_small i0 (show i<d by omega),cs_small i0 (by omega)]
  show (f.Core.take d.toNat).getD i.toNat []=_;rw [Y07,Y07,List.getElem?_take_of_lt (by omega)]
theorem Z2b.shape {f c:Form} (hs:Shape f) (h:Z2b f c):Shape c:=by
 rcases h with ⟨hb,rfl⟩|⟨hb,h0,d,hg,_,rfl⟩
 ·exact ⟨rfl,by simp,by simp,by simp,by simp,λj k a b _ h=>by simp at h⟩
 ·have hd:=hg.pos;have hdn:d<=f.Count:=Int.le_of_dvd h0 hg.dvd;have hcnt:=hs.count;have hm:0<f.Count / d:=Int.ediv_pos_of_pos_of_dvd h0 (by omega) hg.dvd
  have hp:0<f.Period:=by
   have:=hs.per;have:=hs.zero;rcases Int.lt_or_le 0 f.Period with h|h
   ·exact h
   ·have:f.Period=0:=by omega
    have:=hs.zero.2 this;omega
  have hq:0<f.Period / (f.Count / d):=Int.ediv_pos_of_pos_of_dvd hp (by omega) (Int.dvd_of_emod_eq_zero hg.rest)
  have hq2:f.Period / (f.Count / d)<=f.Period:=Int.ediv_le_self _ (by omega)
  refine ⟨?_,?_,?_,?_,by simp,λj k a b _ h=>by simp at h⟩
  ·simp only [YR];omega
  ·simp only;omega
  ·simp only;have:=hs.per;omega
  ·intro l hl';exact hs.core l (Yd hl')
theorem Z2b.lim {f c:Form} (hl:Lim f) (hs:Shape f) (h:Z2b f c):Lim c:=by
 have hsc:=h.shape hs
 have hn:c.Core.length<=f.Core.length/\∀ l∈c.Core,l∈f.Core:=by
  rcases h with ⟨hb,rfl⟩|⟨hb,h0,d,hg,_,rfl⟩
  ·exact ⟨YW _,λl hl'=>by cases hl'⟩
  ·exact ⟨by simp only [YR];omega,λl hl'=>Yd hl'⟩
 have hc:=hl.core
 have h24:=YS 24 hn.1
 have hp:=hsc.per
 have hcnt:=hsc.count
 have hcl:(f.Core.length:Int)<4611686018427387904:=Z1X (b:=23) hl.core
 exact ⟨by omega,λl hl'=>hl.sets l (hn.2 l hl'),by rw [h.odd];simp [Z0P],by rw [h.odd];simp,by unfold In64;omega,by unfold In64;omega⟩
theorem Z2b.ZS {f c:Form} (hs:Shape f) (h:Z2b f c) (i:Int):ZS c i=Go.Dn.csz f i:=by
 rw [setAt_csz (by rintro ⟨g,hg,_⟩;rw [h.odd] at hg;cases hg),h.csz hs]
open Classical in
noncomputable def oddly (f:Form) (g:Granule):Bool:=decide (¬ csz f g.Index=g.Ticks)
noncomputable def canonF (f c:Form):Form:=Form.mk c.Period c.Count c.Core (f.Odd.filter (oddly f))
end Go.Dn

namespace Go.Dn
open Go
theorem ext_of {α:Type} {a b:List α} (hl:a.length=b.length) (h:∀ (k:Nat) x y,a[k]? = some x->b[k]? = some y->x=y):a=b:=by
 apply List.ext_getElem hl
 intro k h1 h2
 exact h k _ _ (Y3 h1) (Y3 h2)
theorem granule_ext {x y:Granule}:x=y↔x.Index=y.Index/\x.Ticks=y.Ticks:=by
 obtain ⟨a,b⟩:=x
 obtain ⟨c,d⟩:=y
 simp
theorem form_ext {a b:Form}:a=b↔a.Period=b.Period/\a.Count=b.Count/\a.Core=b.Core/\a.Odd=b.Odd:=by
 obtain ⟨a1,a2,a3,a4⟩:=a
 obtain ⟨b1,b2,b3,b4⟩:=b
 simp
theorem alike_eq {a b:List Span} (ha:Len a):∃ r,ZU a b=some r/\(r=true↔a=b):=by
 have hl:(a.length:Int)<9223372036854775807:=by have:=Z0P;unfold Len at ha;omega
 unfold ZU
 by_cases hlen:a.length=b.length
 ·rw [bne_f (by omega),cond_false]
  rcases eqf_loop (a:=a) (b:=b) (step:=ZU.s0 a b) (eq:=λx y=>some (decide (y=x))) (λp q=>p=q) hl hlen (λk p q hp hq=>⟨_,rfl,by rw [decide_eq_true_iff];exact ⟨Eq.symm,Eq.symm⟩⟩) (λs=>by
   unfold ZU.s0;simp only [span_beq]
   rfl) with ⟨h1,h2⟩|⟨h1,h2⟩
  ·rw [h1];exact ⟨true,rfl,⟨λ_=>ext_of hlen h2,λ_=>rfl⟩⟩
  ·rw [h1];exact ⟨false,rfl,⟨(λh=>nomatch h),λe=>absurd (λk p q hp hq=>by rw [e,hq] at hp;exact (Option.some.inj hp).symm) h2⟩⟩
 ·rw [bne_t (by omega),cond_true]
  exact ⟨false,rfl,⟨(λh=>nomatch h),λe=>absurd (congrArg List.length e) hlen⟩⟩
theorem alikeForms_eq {a b:Form} (hl:Lim a):∃ r,ZD a b=some r/\(r=true↔a=b):=by
 have hc:(a.Core.length:Int)<4611686018427387904:=Z1X (b:=23) hl.core
 have ho:(a.Odd.length:Int)<4611686018427387904:=Z1X (b:=31) hl.odd
 unfold ZD
 rw [form_ext]
 by_cases hp:a.Period=b.Period/\a.Count=b.Count/\a.Core.length=b.Core.length/\a.Odd.length=b.Odd.length
 ·obtain ⟨p1,p2,p3,p4⟩:=hp;rw [bne_f p1,bne_f p2,bne_f (show (a.Core.length:Int)=b.Core.length by omega),bne_f (show (a.Odd.length:Int)=b.Odd.length by omega)]
  simp only [Bool.or_self,cond_false];rcases eqf_loop (a:=a.Core) (b:=b.Core) (step:=ZD.s0 a b) (eq:=ZU) (λp q=>p=q) (by omega) p3 (λk p q hp hq=>alike_eq (hl.sets p (Y6 hp)).1) (λs=>rfl) with ⟨h1,h2⟩|⟨h1,h2⟩
  ·rw [h1];simp only [Y1,Jx.elim];have ec:=ext_of p3 h2;rcases eqf_loop (a:=a.Odd) (b:=b.Odd) (step:=ZD.s1 a b) (eq:=λx y=>bif x.Index != y.Index then some false else ZU x.Ticks y.Ticks) (λp q=>p=q) (by omega) p4 (λk p q hp hq=>by
    rw [granule_ext]
    by_cases hi:p.Index=q.Index
    ·rw [bne_f hi,cond_false];obtain ⟨r,q1,q2⟩:=alike_eq (b:=q.Ticks) (hl.ticks p (Y6 hp)).2.1;exact ⟨r,q1,by rw [q2];exact ⟨λe=>⟨hi,e⟩,λe=>e.2⟩⟩
    ·rw [bne_t hi,cond_true];exact ⟨false,rfl,⟨(λh=>nomatch h),λe=>absurd e.1 hi⟩⟩) (λs=>by
    unfold ZD.s1;rcases e1:at? a.Odd s with _|x
    ·rfl
    rcases e2:at? b.Odd s with _|y
    ·rfl
    simp only [Y1];cases x.Index != y.Index with
    | true=>rfl
    | false=>
     simp only [cond_false];rcases ZU x.Ticks y.Ticks with _|r
     ·rfl
     ·rfl) with ⟨h3,h4⟩|⟨h3,h4⟩
   ·rw [h3];exact ⟨true,rfl,⟨λ_=>⟨p1,p2,ec,ext_of p4 h4⟩,λ_=>rfl⟩⟩
   ·rw [h3];exact ⟨false,rfl,⟨(λh=>nomatch h),λe=>absurd (λk p q hp hq=>by rw [e.2.2.2,hq] at hp;exact (Option.some.inj hp).symm) h4⟩⟩
  ·rw [h1];exact ⟨false,rfl,⟨(λh=>nomatch h),λe=>absurd (λk p q hp hq=>by rw [e.2.2.1,hq] at hp;exact (Option.some.inj hp).symm) h2⟩⟩
 ·refine ⟨false,?_,⟨(λh=>nomatch h),λe=>absurd ⟨e.1,e.2.1,by rw [e.2.2.1],by rw [e.2.2.2]⟩ hp⟩⟩
  have:((((a.Period != b.Period)||(a.Count != b.Count))||((a.Core.length:Int) != (b.Core.length:Int)))||((a.Odd.length:Int) != (b.Odd.length:Int)))=true:=by
   simp only [Yj,bne_iff_ne,ne_eq];apply Classical.byContradiction;intro hn;apply hp;refine ⟨?_,?_,?_,?_⟩<;>apply Classical.byContradiction<;>intro h<;>apply hn
   ·exact .inl (.inl (.inl h))
   ·exact .inl (.inl (.inr h))
   ·exact .inl (.inr (by omega))
   ·exact .inr (by omega)
  rw [this];rfl
end Go.Dn

namespace Go.Dn
open Go
theorem Z5K {l:List Granule}:Inc l↔l.Pairwise (λa b=>a.Index<b.Index):=by
 rw [Yv]
 constructor
 ·intro h i j hi hj hij;exact h i j _ _ hij (Y3 hi) (Y3 hj)
 ·intro h j k a b hjk ha hb;obtain ⟨h1,rfl⟩:=List.getElem?_eq_some_iff.1 ha;obtain ⟨h2,rfl⟩:=List.getElem?_eq_some_iff.1 hb;exact h j k h1 h2 hjk
theorem Inc.filter {l:List Granule} (h:Inc l) (p:Granule->Bool):Inc (l.filter p):=Z5K.2 ((Z5K.1 h).filter p)
end Go.Dn

namespace Go.Dn
open Go
end Go.Dn

namespace Go.Dn
open Go
theorem shift_ne {l:List Span} (hn:l≠[]) {a b:Int} (h:l.map (Z00 a)=l.map (Z00 b)):a=b:=by
 cases l with
 | nil=>exact absurd rfl hn
 | cons s l=>
  simp only [Yz,List.cons.injEq,Z00,Span.mk.injEq] at h;omega
theorem Turn.uniq {h:Int->List Span} {d q q':Int} (t:Turn h d q) (t':Turn h d q') {i:Int} (hn:h i≠[]):q=q':=shift_ne hn ((t i).symm.trans (t' i))
def NearF (f:Form) (m:Int):Prop:=∀ g∈f.Odd,-m<=g.Index/\g.Index<=m
end Go.Dn

namespace Go.Dn
open Go
end Go.Dn

namespace Go.Dn
open Go
theorem anew_eq {l:List Span} (hl:Len l):Z0j l=some l:=by
 unfold Z0j new?
 have hr:=Z0P
 have hro:=Z5J
 unfold Len at hl
 rw [if_pos ⟨by omega,by omega⟩]
 simp only [Y1,Y5]
 unfold cpy
 simp
theorem anewForm_eq {f:Form} (hl:Lim f):ZE f=some f:=by
 have hr:=Z0P
 have hro:=Z5J
 have hcl:(f.Core.length:Int)<4611686018427387904:=Z1X (b:=23) hl.core
 have hol:(f.Odd.length:Int)<4611686018427387904:=Z1X (b:=31) hl.odd
 have h1:loopO (ZE.s0 f) (0,[])=some f.Core:=by
  refine Z0k (I:=λs r=>r=f.Core/\∃ k:Nat,k<=f.Core.length/\s=((k:Int),f.Core.take k)) (λs=>f.Core.length-s.1.toNat) ?_ ⟨rfl,0,YW _,rfl⟩;rintro s r ⟨rfl,k,hk,rfl⟩;unfold ZE.s0
  by_cases hlt:k<f.Core.length
  ·left
   have htk:f.Core.take (k+1)=f.Core.take k++[f.Core[k]]:=(List.take_append_getElem hlt).symm;refine ⟨((k:Int)+1,f.Core.take (k+1)),?_,⟨rfl,k+1,hlt,by push_cast;rfl⟩,by simp;omega⟩
   have hc:=hl.core;rw [Zd (show (k:Int)<f.Core.length by omega),cond_true,at?_nat hlt]
   simp only [Y1,anew_eq (hl.sets _ (Ya hlt)).1];rw [app?_ok (by simp only [YR,Yc,Yu];omega),Zb (show _ by omega),htk]
   rfl
  ·right
   have:k=f.Core.length:=by omega
   subst this;rw [Zr (by omega),cond_false,Y0F]
 have h2:loopO (ZE.s1 f) (0,[])=some f.Odd:=by
  refine Z0k (I:=λs r=>r=f.Odd/\∃ k:Nat,k<=f.Odd.length/\s=((k:Int),f.Odd.take k)) (λs=>f.Odd.length-s.1.toNat) ?_ ⟨rfl,0,YW _,rfl⟩;rintro s r ⟨rfl,k,hk,rfl⟩;unfold ZE.s1
  by_cases hlt:k<f.Odd.length
  ·left
   have htk:f.Odd.take (k+1)=f.Odd.take k++[f.Odd[k]]:=(List.take_append_getElem hlt).symm;refine ⟨((k:Int)+1,f.Odd.take (k+1)),?_,⟨rfl,k+1,hlt,by push_cast;rfl⟩,by simp;omega⟩
   have hc:=hl.odd;rw [Zd (show (k:Int)<f.Odd.length by omega),cond_true,at?_nat hlt]
   simp only [Y1,anew_eq (hl.ticks _ (Ya hlt)).2.1];rw [app?_ok (by simp only [YR,Yc,Yu];omega),Zb (show _ by omega),htk]
   rfl
  ·right
   have:k=f.Odd.length:=by omega
   subst this;rw [Zr (by omega),cond_false,Y0F]
 unfold ZE
 rw [h1,h2]
 rfl
end Go.Dn

namespace Go.Dn
open Go
theorem own_loop {x:List Span×Int} (hl:Len x.1):loopO (Zf.s0 x) (0,x.1)=some ():=by
 have hb:x.1.length<100000000000000:=by have:=Z0P;unfold Len at hl;omega
 refine Z0k (I:=λ(s:Int×List Span) r=>r=()/\∃ (k:Nat) (ys:List Span),s=((k:Int),ys)/\ys.length=x.1.length/\k<=x.1.length) (λs=>x.1.length-s.1.toNat) ?_ ⟨rfl,0,x.1,rfl,rfl,YW _⟩
 rintro s r ⟨rfl,k,ys,rfl,hy,hk⟩
 unfold Zf.s0
 by_cases hlt:k<x.1.length
 ·have hky:k<ys.length:=by omega
  refine .inl ⟨(((k+1:Nat):Int),ys.set k ⟨w64 (ys[k].From-1),ys[k].To⟩),?_,⟨rfl,k+1,_,rfl,List.length_set.trans hy,hlt⟩,by simp;omega⟩
  simp only;rw [Zd (by omega),at?_nat hky]
  simp only [cond_true,Y1];rw [Zb (by omega),Int.toNat_natCast]
  rfl
 ·refine .inr ?_;simp only;rw [Zr (by omega)]
  rfl
theorem formOwn_true (f:Form) (i:Int) (hf:f.ok) (hi:okI .i64 i):Zf f i=some true:=by
 have hl:=Form.lim hf
 rw [okI_i64] at hi
 have hr:=Z0P
 have hro:=Z5J
 unfold Zf
 obtain ⟨b,hb,hbr⟩:=Z4N hl
 rw [hb]
 simp only [Y1]
 cases b with
 | false=>rfl
 | true=>
  obtain ⟨hsm,hrf⟩:=hbr.1 rfl;have hs:=hrf.shape;simp only [Y0K,cond_false];obtain ⟨x3,hx3,hlen⟩ : ∃ x3,Z0U f i=some x3/\Len x3.1:=by
   rw [Z3m hl hs (show In64 i from hi)];refine ⟨_,rfl,?_⟩
   split
   ·exact Z5U hl hs i
   ·unfold Len;simp
  rw [anewForm_eq hl,Y1,hx3,Y1];rw [own_loop hlen,Y1];have ho:own? f=some ():=by
   unfold own?;have h1:f.Core.length*24<=room:=by have:=hl.core;omega
   have h2:f.Odd.length*32<=room:=by have:=hl.odd;omega
   have h3:(f.Core.all λr=>decide (r.length*16<=room))=true:=by
    rw [YC];intro r hr';have:=(hl.sets r hr').1;unfold Len at this;exact decide_eq_true (by omega)
   have h4:(f.Odd.all λg=>decide (g.Ticks.length*16<=room))=true:=by
    rw [YC];intro g hg;have:=(hl.ticks g hg).2.1;unfold Len at this;exact decide_eq_true (by omega)
   rw [Zd h1,Zd h2,h3,h4]
   rfl
  rw [ho,Y1];obtain ⟨r,e1,e2⟩:=alikeForms_eq (a:=f) (b:=f) hl;rw [e1,Y1,e2.2 rfl]
  rfl
end Go.Dn
