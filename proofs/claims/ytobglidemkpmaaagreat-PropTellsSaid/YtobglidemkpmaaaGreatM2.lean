/- Part 2 of what the row stands on. -/
import Derived.Below
import Derived.ChangeArms
import Derived.ChangeOld
import Derived.SizedLaws
import Derived.KernelRfl
import Derived.Test.YtobglidemkpmaaaGreatProg
import Derived.Test.YtobglidemkpmaaaGreatM1
set_option linter.unusedVariables false
set_option linter.unusedSimpArgs false
namespace Go.Dn
open Go Go.ChangeShapes
def consec (P:Program):Nat->List Field->Option Nat
 | o,[]=>some o
 | o,f::fs=>if f.offset=o then consec P (o+P.cellsOf f.type) fs else none
def supp (P:Program):Nat->TypeId->Bool
 | 0,_=>false
 | d+1,t=>
  match P.underlying t with
  | some .bool=>P.cellsOf t==1
  | some (.int _)=>P.cellsOf t==1
  | some .string=>P.cellsOf t==1
  | some (.slice e)=>P.cellsOf t==1&&P.cellsOf e != 0&&supp P d e
  | some (.struct fs)=>fs.toList.all (λf=>supp P d f.type)&&(consec P 0 fs.toList==some (P.cellsOf t))
  | _=>false
def OKC (P:Program):Nat->TypeId->List FV->Prop
 | 0,_,_=>False
 | d+1,t,ys=>
  match P.underlying t with
  | some .bool=>∃ b,ys=[.bool b]
  | some (.int k)=>∃ m,ys=[.int k m]/\(Lit.int k m).wf=true
  | some .string=>∃ s,ys=[.str s]/\s.size<=maxLen
  | some (.slice e)=>∃ xs,ys=[.sl xs]/\xs.length*P.bytesOf e<=reachBytes/\∀ x∈xs,OKC P d e x
  | some (.struct fs)=>ys.length=P.cellsOf t/\∀ f∈fs.toList,OKC P d f.type ((ys.drop f.offset).take (P.cellsOf f.type))
  | _=>False
section
variable {H:Type} {enc:TypeId×Value->H} {P:Program} {w:World} {base:Nat} {spare:Nat->Bool} {held:Bool} {Im:Nat->Prop}
def Cov (w:World) (Im:Nat->Prop) (ys:List FV) (cs:List Value):Prop:=ys.length=cs.length/\∀ (i:Nat) (y:FV) (v:Value),ys[i]? = some y->cs[i]? = some v->FVR w Im y v
theorem Cov.one {y:FV} {v:Value} (h:FVR w Im y v):Cov w Im [y] [v]:=⟨rfl,λi y' v' hy hv=>by
 cases i with
 | zero=>cases hy;cases hv;exact h
 | succ i=>simp at hy⟩
theorem consec_le:∀ {fs:List Field} {o m:Nat},consec P o fs=some m->o<=m
 | [],o,m,h=>by simp [consec] at h;omega
 | f::fs,o,m,h=>by
  simp only [consec] at h
  split at h
  ·have:=consec_le h;omega
  ·cases h
theorem fields_ok {d n:Nat} {cs:List Value} (ih:∀ (t:TypeId) (cs:List Value) (x:DataW H×List MemPlace),supp P d t=true->DataW.trod enc P w base spare held n t cs=some x->(∀ p∈x.2,Im p.block)->(∀ n∈x.1.weights P t,n<=reachBytes)->∃ ys,Cov w Im ys cs/\OKC P d t ys) :
  ∀ (fs:List Field) (o m:Nat),consec P o fs=some m->m<=cs.length->(∀ f∈fs,supp P d f.type=true) ->
   (∀ f∈fs,∃ x,DataW.trod enc P w base spare held n f.type ((cs.drop f.offset).take (P.cellsOf f.type))=some x/\(∀ p∈x.2,Im p.block)/\∀ n∈x.1.weights P f.type,n<=reachBytes) ->
   ∃ ys,Cov w Im ys ((cs.drop o).take (m-o))/\∀ f∈fs,o<=f.offset/\OKC P d f.type ((ys.drop (f.offset-o)).take (P.cellsOf f.type))
 | [],o,m,hc,hm,_,_=>by
  simp [consec] at hc;subst hc;exact ⟨[],⟨by simp,by simp⟩,by simp⟩
 | f::fs,o,m,hc,hm,hs,hx=>by
  simp only [consec] at hc
  split at hc
  ·rename_i ho;subst ho;obtain ⟨x,hx1,hx2,hx3⟩:=hx f Yg;obtain ⟨ys,⟨hl,hv⟩,hok⟩:=ih f.type _ x (hs f Yg) hx1 hx2 hx3;have hle:=consec_le hc;obtain ⟨zs,⟨hl2,hv2⟩,hok2⟩:=fields_ok ih fs _ m hc hm (λg hg=>hs g (YY _ hg)) (λg hg=>hx g (YY _ hg));simp only [YN,Y0A] at hl hl2;have hy:ys.length=P.cellsOf f.type:=by omega
   refine ⟨ys++zs,⟨by simp only [YR,YN,Y0A];omega,λi y v h1 h2=>?_⟩,λg hg=>?_⟩
   ·by_cases hi:i<ys.length
    ·rw [YW hi] at h1;refine hv i y v h1 ?_;rw [YV] at h2 ⊢;rw [if_pos (by omega)] at h2 ⊢
     exact h2
    ·rw [Yc (by omega)] at h1
     have hi2:i-ys.length<zs.length:=by
      rcases YL (i-ys.length) zs.length with h|h
      ·exact h
      ·rw [YZ h] at h1;cases h1
     refine hv2 (i-ys.length) y v h1 ?_;rw [YV,Yp] at h2 ⊢;rw [if_pos (by omega)] at h2 ⊢
     rw [<- h2]
     congr 1;omega
   ·rcases List.mem_cons.1 hg with rfl|hg
    ·refine ⟨YB _,?_⟩;rw [Y13,List.drop_zero,Y0V (by omega),Y0K (by omega)]
     exact hok
    ·obtain ⟨h1,h2⟩:=hok2 g hg;refine ⟨by omega,?_⟩
     have:(ys++zs).drop (g.offset-f.offset)=zs.drop (g.offset-(f.offset+P.cellsOf f.type)):=by
      rw [List.drop_append,List.drop_eq_nil_of_le (by omega),Y0o]
      congr 1;omega
     rw [this];exact h2
  ·cases hc
theorem ZCH {e:TypeId}:∀ {ds:List (DataW H)} {d:DataW H},d∈ds->∀ n∈d.weights P e,n∈DataW.weightsAll P e ds
 | d0::ds,d,h,n,hn=>by
  simp only [DataW.weightsAll,Yv];rcases List.mem_cons.1 h with rfl|h
  ·exact .inl hn
  ·exact .inr (ZCH h n hn)
def Sized (P:Program) (t:TypeId) (d:DataW H):Prop:=∀ n∈d.weights P t,n<=reachBytes
theorem OKC.length:∀ {d:Nat} {t:TypeId} {ys:List FV},supp P d t=true->OKC P d t ys->ys.length=P.cellsOf t
 | 0,t,ys,h,_=>by simp [supp] at h
 | d+1,t,ys,h,ho=>by
  unfold supp at h;unfold OKC at ho
  split at h
  all_goals (rename_i hu;simp only [hu] at ho)
  ·obtain ⟨b,rfl⟩:=ho;simp at h;simp [h]
  ·obtain ⟨b,rfl,_⟩:=ho;simp at h;simp [h]
  ·obtain ⟨b,rfl,_⟩:=ho;simp at h;simp [h]
  ·obtain ⟨b,rfl,_⟩:=ho;simp at h;simp [h]
  ·exact ho.1
theorem ZAV:∀ (d n:Nat) (t:TypeId) (cs:List Value) (x:DataW H×List MemPlace),supp P d t=true->DataW.trod enc P w base spare held n t cs=some x->(∀ p∈x.2,Im p.block)->(∀ n∈x.1.weights P t,n<=reachBytes)->∃ ys,Cov w Im ys cs/\OKC P d t ys
 | 0,n,t,cs,x,hs,h,hp,hw=>by simp [supp] at hs
 | d+1,n,t,cs,x,hs,h,hp,hw=>by
  unfold supp at hs
  split at hs
  ·rename_i hu;cases n with
   | zero=>simp [DataW.trod] at h
   | succ n=>
    simp only [DataW.trod,hu] at h
    split at h<;>simp_all
    rename_i b;exact ⟨[.bool b],Cov.one (.bool b),by simp [OKC,hu]⟩
  ·rename_i k hu;cases n with
   | zero=>simp [DataW.trod] at h
   | succ n=>
    simp only [DataW.trod,hu] at h
    split at h<;>try (simp_all;done)
    rename_i k2 m he1 ;simp only [Y5,TypeDesc.int.injEq] at he1;subst he1
    split at h
    ·rename_i k' n' hk;obtain ⟨rfl,hwf⟩:=hk;exact ⟨[.int _ _],Cov.one (.int _ _),by simp [OKC,hu,hwf]⟩
    ·cases h
  ·rename_i hu;cases n with
   | zero=>simp [DataW.trod] at h
   | succ n=>
    simp only [DataW.trod,hu] at h
    split at h<;>try (simp_all;done)
    split at h
    ·rename_i s hk;exact ⟨[.str _],Cov.one (.str _),by simp [OKC,hu,hk]⟩
    ·cases h
  ·rename_i e hu;simp only [Y8,beq_iff_eq,bne_iff_ne,ne_eq] at hs;rcases DataW.trod_slice hu h with ⟨rfl,rfl⟩|⟨a,len,cap,elems,rest,m,rfl,rfl,rfl,hb,hl,hm,hlen,hel,hsp,hns⟩
   ·exact ⟨[.sl []],Cov.one .nil,by simp [OKC,hu]⟩
   ·by_cases h0:len=0
    ·subst h0;exact ⟨[.sl []],Cov.one (.empty a cap),by simp [OKC,hu]⟩
    ·have each:∀ i,i<len->∃ cs' ys,w.cells? base (a.add (i*P.cellsOf e)) (P.cellsOf e)=some cs'/\Cov w Im ys cs'/\OKC P d e ys:=by
      intro i hi;have h1:=hel i hi;obtain ⟨y,hy⟩ : ∃ y,elems[i]? = some y:=⟨_,Y2 (by omega)⟩
      rw [hy,Y4] at h1;obtain ⟨cs',hcs,ht⟩:=h1;obtain ⟨ys,h2,h3⟩:=ZAV d m e cs' y hs.2 ht (λp hpm=>hp p (by
       refine Yq _ (List.mem_flatMap.2 ⟨y,Yj _ (Y7 hy),hpm⟩))) (λn hn=>hw n (by
       simp only [DataW.weights,hu,List.mem_cons,Yv];exact .inr (.inl (ZCH (List.mem_map.2 ⟨y,Y7 hy,rfl⟩) n hn))))
      exact ⟨cs',ys,hcs,h2,h3⟩
     let F:Nat->List FV:=λi=>if hi:i<len then (each i hi).choose_spec.choose else []
     let C:Nat->List Value:=λi=>if hi:i<len then (each i hi).choose else []
     have hF:∀ i,i<len->w.cells? base (a.add (i*P.cellsOf e)) (P.cellsOf e)=some (C i)/\Cov w Im (F i) (C i)/\OKC P d e (F i):=by
      intro i hi;simp only [F,C,dif_pos hi];exact (each i hi).choose_spec.choose_spec
     have hFl:∀ i,i<len->(F i).length=P.cellsOf e:=λi hi=>OKC.length hs.2 (hF i hi).2.2;have hxs:∀ y∈(List.range len).map F,∃ i,i<len/\y=F i:=λy hy=>by
      obtain ⟨i,hi,rfl⟩:=List.mem_map.1 hy;exact ⟨i,List.mem_range.1 hi,rfl⟩
     refine ⟨[.sl ((List.range len).map F)],Cov.one ?_,?_⟩
     ·by_cases hz:P.cellsOf e=0
      ·exact absurd hz hs.1.2
      ·have hsp0:a.spot=none:=by
        have h1:=(World.cells?_some (hF 0 (by omega)).1).2.2 0 (by omega)
        have hl0:=(World.cells?_some (hF 0 (by omega)).1).2.1
        simp only [Nat.zero_mul,Addr.add,if_true] at h1;unfold World.cell? at h1
        split at h1
        ·split at h1
         ·have:(C 0)[0]? = none:=h1.symm;rw [List.getElem?_eq_none_iff] at this;omega
         ·rename_i hq;simpa using hq
        ·have:(C 0)[0]? = none:=h1.symm;rw [List.getElem?_eq_none_iff] at this;omega
       obtain ⟨bl,off,spot⟩:=a;simp only at hsp0;subst hsp0;have hcov:=FVR.sl (w:=w) (Imm:=Im) ((List.range len).map F) bl off cap (P.cellsOf e) (λi j=>(C i).getD j Go.undef) ?_ (by simpa using hl) (λy hy=>by
        obtain ⟨i,hi,rfl⟩:=hxs y hy;exact hFl i hi) (λi j hi hj=>?_) (λi j y x h1 h2=>?_)
       ·simpa using hcov
       ·refine hp (.cell bl (off+0)) (Yj _ ?_);simp only [MemPlace.row,List.mem_map,Y0w];refine ⟨0,?_,rfl⟩;exact Nat.mul_pos (by omega) (by omega)
       ·simp only [YJ,Y0I] at hi;have h1:=(World.cells?_some (hF i hi).1).2.2 j hj;have hl0:=(World.cells?_some (hF i hi).1).2.1;have e1:(Addr.add (Addr.add ⟨bl,off,none⟩ (i*P.cellsOf e)) j)=⟨bl,off+i*P.cellsOf e+j,none⟩:=by
         simp only [Z4u]
        rw [e1] at h1;rw [h1,Y2 (by omega)]
        simp [List.getD,Y2 (show j<(C i).length by omega)]
       ·rw [YS,Y1] at h1;obtain ⟨i',hi',rfl⟩:=h1;have hi2:=List.mem_range.1 (Y7 hi');have:i'=i:=by
         rw [List.getElem?_eq_some_iff] at hi';obtain ⟨q1,q2⟩:=hi'
         simpa using q2.symm
        subst this;have hj:j<(C i').length:=by
         rw [<- (hF i' hi2).2.1.1];exact (List.getElem?_eq_some_iff.1 h2).1
        refine (hF i' hi2).2.1.2 j x _ h2 ?_;rw [Y2 hj];simp [List.getD,Y2 hj]
     ·simp only [OKC,hu];refine ⟨_,rfl,?_,λy hy=>?_⟩
      ·have h1:=hw ((elems.length+rest.length)*P.bytesOf e) (by simp [DataW.weights,hu])
       refine Ya (YU _ ?_) h1
       simp;omega
      obtain ⟨i,hi,rfl⟩:=hxs y hy;exact (hF i hi).2.2
  ·rename_i fs hu;simp only [Y8,beq_iff_eq,YG] at hs;obtain ⟨xs,m,rfl,rfl,hl,hx,hf⟩:=DataW.trod_struct hu h;obtain ⟨ys,hc,ho⟩:=fields_ok (cs:=cs) (λt cs x h1 h2 h3 h4=>ZAV d m t cs x h1 h2 h3 h4) fs.toList 0 (P.cellsOf t) hs.2 (by omega) hs.1 (λf hfm=>by
    obtain ⟨i,hi⟩:=YC hfm;have hi':fs[i]? = some f:=by simpa using hi
    have h1:=hf i f hi';have hlt:i<xs.length:=by
     have:=(Array.getElem?_eq_some_iff.1 hi').1;omega
    rw [Y2 hlt] at h1;exact ⟨_,h1,λp hpm=>hp p (List.mem_flatMap.2 ⟨_,YE hlt,hpm⟩),λn hn=>hw n (by
     simp only [DataW.weights,hu];exact DataW.weights_mem_each (j:=i) (t:=f.type) (d:=(xs[i]).1) (by simp [hi]) (by simp [hlt]) n hn)⟩)
   rw [List.drop_zero,Nat.sub_zero,Y0K (by omega)] at hc
   refine ⟨ys,hc,?_⟩;simp only [OKC,hu];exact ⟨hc.1.trans hl,λf hfm=>by simpa using (ho f hfm).2⟩
  ·cases hs
end
def okI (k:IntKind) (x:Int):Prop:=k.min<=x/\x<=k.max
def okB (_:Bool):Prop:=True
def okS (x:ByteArray):Prop:=x.size<=maxLen
def okL {α:Type} (b:Nat) (p:α->Prop) (xs:List α):Prop:=xs.length*b<=reachBytes/\∀ x∈xs,p x
def Dec (P:Program) {α:Type} (t:TypeId) (c:α->List FV) (ok:α->Prop):Prop:=∀ d ys,OKC P d t ys->∃ x,ys=c x/\ok x
section
variable {P:Program} {t e:TypeId}
theorem Dec.int {k:IntKind} (h:P.underlying t=some (.int k)):Dec P t (cI k) (okI k):=λd ys ho=>by
 cases d with
 | zero=>exact ho.elim
 | succ d=>
  simp only [OKC,h] at ho;obtain ⟨m,rfl,hw⟩:=ho;exact ⟨m,rfl,by simpa [Lit.wf,okI] using hw⟩
theorem Dec.bool (h:P.underlying t=some .bool):Dec P t cB okB:=λd ys ho=>by
 cases d with
 | zero=>exact ho.elim
 | succ d=>
  simp only [OKC,h] at ho;obtain ⟨m,rfl⟩:=ho;exact ⟨m,rfl,trivial⟩
theorem Dec.str (h:P.underlying t=some .string):Dec P t cS okS:=λd ys ho=>by
 cases d with
 | zero=>exact ho.elim
 | succ d=>
  simp only [OKC,h] at ho;obtain ⟨m,rfl,hw⟩:=ho;exact ⟨m,rfl,hw⟩
theorem Dec.sl {α:Type} {c:α->List FV} {ok:α->Prop} {b:Nat} (h:P.underlying t=some (.slice e)) (hb:P.bytesOf e=b) (he:Dec P e c ok):Dec P t (cL c) (okL b ok):=λd ys ho=>by
 cases d with
 | zero=>exact ho.elim
 | succ d=>
  simp only [OKC,h] at ho;obtain ⟨xs,rfl,hl,hx⟩:=ho;have:∀ xs:List (List FV),(∀ x∈xs,OKC P d e x)->∃ as_:List α,xs=as_.map c/\∀ a∈as_,ok a:=by
   intro xs
   induction xs with
   | nil=>intro _;exact ⟨[],rfl,by simp⟩
   | cons x xs ih=>
    intro hx;obtain ⟨a,rfl,ha⟩:=he d x (hx x Yg);obtain ⟨as_,rfl,has⟩:=ih λy hy=>hx y (YY _ hy);exact ⟨a::as_,rfl,λb hb=>by
     rcases List.mem_cons.1 hb with rfl|hb
     ·exact ha
     ·exact has b hb⟩
  obtain ⟨as_,rfl,has⟩:=this xs hx;exact ⟨as_,rfl,by subst hb;simpa using hl,has⟩
theorem fld (ys:List FV) (o s:Nat):(ys.drop o).take s++ys.drop (o+s)=ys.drop o:=by
 rw [<- List.drop_drop];exact Y04 s (ys.drop o)
theorem Z9E {ys:List FV} {n:Nat} (h:ys.length=n):ys.drop n=[]:=List.drop_eq_nil_of_le (by omega)
end
theorem pvr_agg {P:Program} {t:TypeId} {W:World} {base:Nat} {v:Value} {s:St} {ys:List FV} {fs:Array Field} (hu:P.underlying t=some (.struct fs)) (hval:Value.okWide P W .any base t v) (hs:s.w=W) (hc:Cov W s.imm ys v.cells.toList):PVR s (.agg (vs ys)) v:=by
 unfold Value.okWide at hval
 rw [hu] at hval
 obtain ⟨cs,rfl,_,_⟩:=hval
 obtain ⟨hl,hc⟩:=hc
 subst hs
 simp only [Value.cells,Y0L] at hl hc
 have each:∀ (i:Nat) (u:Value),cs[i]? = some u->∃ y,ys[i]? = some y/\FVR s.w s.imm y u:=λi u hu=>by
  have hi:=(Array.getElem?_eq_some_iff.1 hu).1;exact ⟨ys[i],Y2 (by omega),hc i _ u (Y2 (by omega)) (by simpa using hu)⟩
 refine .agg (by rw [Z0d];exact hl) (λi x hx=>?_) (λi u hu=>(each i u hu).choose_spec.2.Z6k)
 rw [vs_get,Y1] at hx
 obtain ⟨y,hy,rfl⟩:=hx
 have hi:=(List.getElem?_eq_some_iff.1 hy).1
 refine .v (hc i y _ hy ?_)
 rw [Y0R,Yh (by omega),Y9,Yh (by omega)]
 rfl
end Go.Dn

namespace Go.Dn
open Go
def cloneA (t b : TypeId) : Code := .region 0 #[{ dst := some 2, op := .assign (.const (.slice none 0 0)), type := t, pos := "slices.go:355", after := #[], guard := none }] false
def Z5c (t b : TypeId) : Array Oper := #[{ dst := some 3, op := .move (.tmp 0), type := t, pos := "slices.go:357", after := #[], guard := none },
 { dst := some 4, op := .binOp .eql t (.tmp 3) (.const (.slice none 0 0)) t, type := b, pos := "slices.go:357", after := #[{ on := 0, ground := .data }], guard := none }]
def cloneC (t : TypeId) : Code := .cond (.tmp 4) ((Code.region 2 #[{ dst := some 2, op := .assign (.const (.slice none 0 0)), type := t, pos := "slices.go:358", after := #[], guard := none }] false).seq .ret) .skip
def cloneD (t:TypeId):Code:=(Code.region 3
 #[{ dst := some 5, op := .buildSlice t 0 #[], type := t, pos := "slices.go:362", after := #[], guard := none },
  { dst := some 6, op := .move (.tmp 0), type := t, pos := "slices.go:362", after := #[], guard := none },
  { dst := some 7, op := .call { callee := .builtin .append, args := #[.tmp 5, .tmp 6], argTypes := #[t, t] }, type := t, pos := "slices.go:362", after := #[{ on := 0, ground := .data }, { on := 1, ground := .data }], guard := none },
  { dst := some 2, op := .assign (.tmp 7), type := t, pos := "slices.go:362", after := #[{ on := 2, ground := .data }, { on := 2, ground := .chain }, { on := 0, ground := .phase }, { on := 1, ground := .phase }, { on := 2, ground := .phase }], guard := none }] false).seq .ret
def cloneBody (t b:TypeId):Code:=(cloneA t b).seq (((Code.region 1 (Z5c t b) false).seq (cloneC t)).seq (cloneD t))
structure CloneT (P:Program) (t el:TypeId) (sz by_:Nat) (zs:List PV):Prop where
 ht:tslice P t=some el
 hs:tsize P el=some sz
 hb:tbytes P el=some by_
 hz:tzero P el=some zs
 hc:(sz != 0&&by_ != 0&&zs.length==sz)=true
variable {X:Ctx} {fn:FuncId} {t b el:TypeId} {sz by_:Nat} {zs:List PV}
theorem cloneD_runs (hT:CloneT X.P t el sz by_ zs) {xs:List (List FV)} (hl:xs.all (λy=>y.length==sz)=true) (hroom:xs.length*by_<=room) {e:Env} {G:Heap} (h0:e 0 = .v (.sl xs)) :
  Runs X 8 fn (cloneD t) e G λx e' G'=>x = .ret/\∃ (lo hi:Nat) (L:List Res) (k:Nat),Has G' lo hi L/\L[k]? = some (.sl (e' 2) el sz xs true):=by
 have hc:=hT.hc
 simp only [Y8,beq_iff_eq,bne_iff_ne,ne_eq] at hc
 have H:Hs G []:=Has.nil (YB _)
 obtain ⟨e0,rfl⟩:=(show Z4 e [(0,.v (.sl xs))] from ⟨h0,trivial⟩).ex
 show Runs X 8 fn (Code.seq _ _) _ _ _
 apply Runs.then
 refine Runs.Z5 4 rfl H ?_;intro b1 G H
 refine Ops.Z27 (zs:=zs) (sz:=sz) (pp:=[]) [] H (by omega) (by omega) hT.ht rfl hT.hs hT.hz (by simp only [Y8,beq_iff_eq,bne_iff_ne,ne_eq];exact ⟨⟨hc.2,hc.1.1⟩,by simp⟩) rfl rfl rfl rfl ?_;intro G H
 refine Ops.move (v:=.v (.sl xs)) rfl rfl ?_
 refine Ops.appendS (v:=.buf (b1+0) 0 sz) (w:=.v (.sl xs)) (xs:=[]) (ys:=xs) H (by omega) (by omega) 0 rfl rfl rfl (.p hl) hT.ht hT.hs hT.hb hT.hz hT.hc (by simpa using hroom) nofun rfl ?_;intro w G H
 refine Ops.assign (v:=w) rfl rfl ?_
 apply Ops.nil
 apply Runs.ret
 exact ⟨rfl,_,_,_,0,H,rfl⟩
theorem cloneOps_wp {s:St} {e:Env} {a:Act} (hX:CtxOK X) (hG:Z1C X s) (hi:Inv s) (he:EnvR s 8 e a) (hT:CloneT X.P t el sz by_ zs) {xs:List (List FV)} (h0:e 0 = .v (.sl xs)) {Q:Exit->Act->World->Prop}
  (hQ:∀ (o:Option Addr) (a':Act) (w':World) (D':Nat->Nat),(o=none->xs=[])->Then s 8 a (putD 8 (putD 8 e (some 3) (.v (.sl xs))) (some 4) (.v (.bool o.isNone))) ⟨s.G.nx+2,s.G.ent⟩ a' w' D'->Q .normal a' w') :
  (Code.region 1 (Z5c t b) false).wp X.P Q a s.w:=by
 refine (wpIn_wide (n:=0)).1 (wpIn_region ?_)
 have hi':=Z8r hi 2
 have he':=he.mono (Z3q (s:=s) 2)
 have hG':=hG.mono (Z3q (s:=s) 2)
 have st : Z1K X (Z0X X) 8 (Z5c t b) s.G.nx 0 { dst := some 3, op := .move (.tmp 0), type := t, pos := "slices.go:357", after := #[], guard := none } e (s.more 2).G = some (putD 8 e (some 3) (.v (.sl xs)), (s.more 2).G) := by
  simp only [Z1K,Z0H,Z7,Z0,h0,YA,Y0]
 have first:=stepO_ok (m:=0) (Q:=Q) (rd:=none) (s:=s.more 2) (a:=a) (callL_ok hX) hG' hi' he' (hi.nx _ (by omega)) (by simp only [St.more];omega) st (K:=wpOpsIn (Fw none) 0 X.P (Z5c t b) Q [1]) ?_
 ·have h0' : (Z5c t b)[0]? = some { dst := some 3, op := .move (.tmp 0), type := t, pos := "slices.go:357", after := #[], guard := none } := rfl
  have hr:List.range (Z5c t b).size=[0,1]:=rfl;rw [hr];simp only [wpOpsIn,h0'];exact first
 ·intro a1 w1 D1 ht;have hn := ht.env;have hw : Region.wanted ⟨some 4, .binOp .eql t (.tmp 3) (.const (.slice none 0 0)) t, b, "slices.go:357", #[{ on := 0, ground := .data }], none⟩ (yielded (Z5c t b) a1.tmps) = true := rfl
  have h1' : (Z5c t b)[1]? = some ⟨some 4, .binOp .eql t (.tmp 3) (.const (.slice none 0 0)) t, b, "slices.go:357", #[{ on := 0, ground := .data }], none⟩ := rfl
  simp only [wpOpsIn,h1'];rw [if_pos hw];have hp:PVR ⟨w1,(s.more 2).Y,(s.more 2).G,D1⟩ (.v (.sl xs)) (a1.eval (.tmp 3)):=by
   refine ZJ (X:=X) (hG.mono ((Z3q (s:=s) 2).trans ht.ev)) hn ?_;simp [Z0,putD,upd]
  obtain ⟨o, cap, hv, hcap, hf⟩ := sl_inv hp;have hs : ∀ o4 : Oper, o4 = ⟨some 4, .binOp .eql t (.tmp 3) (.const (.slice none 0 0)) t, b, "slices.go:357", #[{ on := 0, ground := .data }], none⟩ → o4.uponIn (Fw none) 0 X.P a1 (Z8m ⟨w1, (s.more 2).Y, (s.more 2).G, D1⟩ a1 (some 4) (.v (.bool o.isNone)) (s.more 2).G) Q ((o4.semAt (Fw none).round a1.eval).run X.P w1) := by
   intro o4 ho4;have hop:o4.op = .binOp .eql t (.tmp 3) (.const (.slice none 0 0)) t:=by rw [ho4]
   have hd4:o4.dst=some 4:=by rw [ho4]
   rw [Oper.semAt_eq _ _ _ (by intro c hc;rw [hop] at hc;cases hc)]
   simp only [execOp,hop];rw [<- hd4];refine Z31 (s:=⟨w1,(s.more 2).Y,(s.more 2).G,D1⟩) ht.inv ?_;rw [hv];have hg:(eqGuard .eql t (.tmp 3) (.const (.slice none 0 0)) (.slice o xs.length cap) (.slice none 0 0)).run X.P w1 = .ok () w1:=by simp [eqGuard]
   refine ⟨.bool o.isNone,?_,.v (.bool _)⟩;show (do eqGuard .eql t (.tmp 3) (.const (.slice none 0 0)) (.slice o xs.length cap) (.slice none 0 0);binOp .eql t (.slice o xs.length cap) (.slice none 0 0):Sem Value).run X.P w1=_;simp only [Sem.run_bind,hg,Result.andThen_ok];exact (Z6Q (eqNil 9999 (Z1v hT.ht) o xs.length cap w1) (.inr (.inr ⟨_,_,_,_,_,_,rfl,rfl⟩))).1
  refine Oper.wpIn_mono (K:=Z8m ⟨w1,(s.more 2).Y,(s.more 2).G,D1⟩ a1 (some 4) (.v (.bool o.isNone)) (s.more 2).G) (λa' w' hh=>?_) ⟨λ_ _=>trivial,hs _ rfl⟩;obtain ⟨v,rfl,D',h2,h3,h4⟩:=hh;refine hQ o _ w' D' (λho=>?_) ⟨h2,((Z3q (s:=s) 2).trans ht.ev).trans h3,(hn.mono h3).put h4,(Z9y _ _ _).trans ht.defers⟩
  subst ho;generalize hz:Value.slice none xs.length cap=z at hf;cases hf with
  | nil=>rfl
  | empty=>rfl
  | sl=>cases hz
theorem Z8g (hX:CtxOK X) {f:FuncId} {fu:Func} (hf:X.P.funcs[f]? = some fu) (hb:fu.body=some (cloneBody t b)) (hn:fu.ntmps=8) (hr:fu.results = #[.tmp 2]) (hg:∀ g,X.glob g=none)
  (hT:CloneT X.P t el sz by_ zs) {s:St} (hi:Inv s) {xs:List (List FV)} {v:Value} (hl:xs.all (λy=>y.length==sz)=true) (hroom:xs.length*by_<=room) (hv:PVR s (.v (.sl xs)) v) :
  Calls X.P f #[v] s.w λen w'=>∃ v',en = .returned v'/\Post s (.v (.sl xs)) s.G v' w':=by
 have hv1:PVRs s.under [.v (.sl xs)] #[v]:=⟨rfl,λi x hx=>by
  cases i with
  | zero=>cases hx;exact ZBh rfl hv
  | succ i=>simp at hx⟩
 have hiu:=ZBq hi
 have he:=env_of (s:=s.under) (k:=8) hv1
 have hG:∀ s,Z1C X s:=λs g cells h=>by rw [hg] at h;cases h
 refine (callsIn_wide (n:=0)).1 (callsIn_of_wp_marks hf hb trivial ?_ rfl)
 rw [hn]
 refine wpIn_wide.2 ?_
 have fin:∀ e G a' w D (G3:Heap),Aft s.under 8 { tmps:=#[v]++Array.replicate (8-(#[v] : Array Value).size) undef,defers:=[] } e G a' w D->Z1b G (e 2)=some (.v (.sl xs),G3) ->
   bodyPostM Fence.wide 0 X.P fu (λen w'=>∃ v',en = .returned v'/\Post s (.v (.sl xs)) s.G v' w') .ret a' w:=by
  intro e G a' w D G3 ht h4;refine leaves_ok (X:=X) (fu:=fu) (xs:=[e 2]) rfl ht (by rw [hr];rfl) λv w' hp=>⟨v,rfl,?_⟩
  exact ZCo hi hp h4
 refine wp_seq ?_
 refine wp_mono (code_wp (X:=X) (s:=s.under) hX (fn:=f) (hG _) hiu he (Q:=λex e' G'=>ex = .normal/\e' 0 = .v (.sl xs)) ?_) ?_
 ·show Runs X 8 f (Code.region 0 (List.toArray [_]) false) _ ⟨0,λ_=>.none⟩ _;refine Runs.region rfl ?_;refine Ops.assign (v:=.nils) rfl rfl ?_;exact Ops.nil ⟨rfl,rfl⟩
 rintro ex a1 w1 ⟨x1,e1,G1,D1,⟨rfl,k0⟩,rfl,ht1⟩
 simp only [Ex.out,Exit.then]
 refine wp_seq (wp_seq ?_)
 refine cloneOps_wp (s:=⟨w1,s.under.Y,G1,D1⟩) hX (hG _) ht1.inv ht1.env hT k0 ?_
 intro o a2 w2 D2 ho ht2
 have ht12:=ht1.trans ht2.aft
 simp only [Exit.then]
 generalize he2:putD 8 (putD 8 e1 (some 3) (.v (.sl xs))) (some 4) (.v (.bool o.isNone))=e2 at ht2 ht12
 have q0:e2 0 = .v (.sl xs):=by rw [<- he2];simpa [putD,upd] using k0
 have q4:e2 4 = .v (.bool o.isNone):=by rw [<- he2];simp [putD,upd]
 refine wp_mono (code_wp (X:=X) (s:=⟨w2,s.under.Y,⟨G1.nx+2,G1.ent⟩,D2⟩) hX (fn:=f) (hG _) ht2.inv ht2.env (Q:=λex e' G'=>(xs=[]/\ex = .ret/\e' 2 = .nils)\/(ex = .normal/\e' 0 = .v (.sl xs))) ?_) ?_
 ·cases o with
  | none=>
   refine Runs.yes (by simp only [Z0,q4];rfl) ?_
   refine Runs.then ?_;refine Runs.region (l:=[_]) rfl ?_;refine Ops.assign (v:=.nils) rfl rfl ?_;refine Ops.nil ?_;refine Runs.ret ?_;exact .inl ⟨ho rfl,rfl,rfl⟩
  | some o=>
   refine Runs.no (by simp only [Z0,q4];rfl) ?_
   exact Runs.skip (.inr ⟨rfl,q0⟩)
 rintro ex a3 w3 ⟨x3,e3,G3,D3,hq,rfl,ht3⟩
 have ht13:=ht12.trans ht3
 rcases hq with ⟨rfl,rfl,k2⟩|⟨rfl,k3⟩
 ·simp only [Ex.out,Exit.then];exact fin e3 G3 a3 w3 D3 G3 ht13 (by rw [k2];rfl)
 ·simp only [Ex.out,Exit.then];refine wp_mono (code_wp (X:=X) (s:=⟨w3,s.under.Y,G3,D3⟩) hX (fn:=f) (hG _) ht3.inv ht3.env (cloneD_runs hT hl hroom k3)) ?_;rintro ex a4 w4 ⟨x4,e4,G4,D4,⟨rfl,lo,hi4,L,k,H4,hk⟩,rfl,ht4⟩;obtain ⟨G5,q,_⟩:=expR_ok H4 (ExpR.one (.c (.s k hk)));exact fin e4 G4 a4 w4 D4 G5 (ht13.trans ht4) q
end Go.Dn

namespace Go.Dn
open Go
theorem Has.perm {G:Heap} {lo hi:Nat} {L L':List Res} (H:Has G lo hi L) (hp:L.Perm L'):Has G lo hi L':=by
 have mem:∀ {A:List Res},(∀ (k:Nat) (r:Res),A[k]? = some r->r.holds G) ↔ ∀ r∈A,r.holds G:=λ{A}=>
  ⟨λh r hr=>by obtain ⟨k,hk⟩:=YC hr;exact h k r hk,λh k r hk=>h r (Y7 hk)⟩
 have pw:L.Pairwise (λr s=>∀ id,r.owner=some id->s.owner≠some id):=by
  rw [Y01];intro i j hi' hj hij;exact H.sep i j _ _ (by omega) (Y2 hi') (Y2 hj)
 have pw':L'.Pairwise (λr s=>∀ id,r.owner=some id->s.owner≠some id):=(hp.pairwise_iff (λ{a b} h id h1 h2=>h id h2 h1)).1 pw
 refine ⟨mem.2 λr hr=>mem.1 H.holds r (hp.mem_iff.2 hr),λk r hk=>?_,λi j r s hij h1 h2=>?_,H.le⟩
 ·obtain ⟨k',hk'⟩:=YC (hp.mem_iff.2 (Y7 hk));exact H.lt k' r hk'
 ·obtain ⟨hi',rfl⟩:=List.getElem?_eq_some_iff.1 h1;obtain ⟨hj',rfl⟩:=List.getElem?_eq_some_iff.1 h2;rw [Y01] at pw';rcases YL i j with h|h
  ·exact pw' i j hi' hj' h
  ·intro id h3 h4;exact pw' j i hj' hi' (by omega) id h4 h3
def pdOf:Ex->Option Code
 | .normal=>none
 | .exit t=>some (.exit t)
 | .ret=>some .ret
theorem Has.slCells {G:Heap} {lo hi:Nat} {L:List Res} {k:Nat} {v:PV} {et:TypeId} {sz:Nat} {xs:List (List FV)} {lv:Bool} (H:Has G lo hi L) (h:L[k]? = some (.sl v et sz xs lv)):v.cells=some [v]:=by
 rcases (H.holds k _ h).2 with ⟨rfl,_⟩|⟨id,rfl,_⟩<;>rfl
theorem Runs.env {X:Ctx} {n:Nat} {fn:FuncId} {c:Code} {e:Env} {G:Heap} {Q:Ex->Env->Heap->Prop} (l:List (Nat×PV)) (he:Z4 e l) (h:∀ e0,Runs X n fn c (sets e0 l) G Q):Runs X n fn c e G Q:=by
 obtain ⟨e0,rfl⟩:=he.ex
 exact h e0
section
variable {X:Ctx}
def YldH (X:Ctx) (id:Nat) {S T:Type} (C:S->List Res->Prop) (pvT:T->List PV) (y:S->T->Option (S×Bool)):Prop :=
 ∀ s t s' b,y s t=some (s',b)->∀ G lo hi O L,C s L->Has G lo hi (O++L)->∃ G' L',Z0X X (.yld id) (pvT t) G=some (.v (.bool b),G')/\C s' L'/\Hs G' (O++L')
def ItF (X:Ctx) (f:FuncId) (args:List PV) {S:Type} (C:S->List Res->Prop) (s s':S):Prop :=
 ∀ G L,C s L->Hs G L->∃ G' L',Z0X X (.fn f) args G=some (.tup [],G')/\C s' L'/\Hs G' L'
structure EndsI {S:Type} (C:S->List Res->Prop) (s:S) (x:Ex) (e:Env) (G:Heap):Prop where
 out:(x = .normal\/x = .ret)/\∃ L,C s L/\Hs G L
theorem EndsI.H {S:Type} {C:S->List Res->Prop} {s:S} {x:Ex} {e:Env} {G:Heap} {lo hi:Nat} {L L0:List Res} (hx:x = .normal\/x = .ret) (H:Has G lo hi L) (k:Nat) (hk:L.drop k=L0) (hC:C s L0):EndsI C s x e G :=
 ⟨hx,L0,hC,(hk▸H.drop k:Has G lo hi L0).all⟩
theorem ItF.of {f:FuncId} {args:List PV} {S:Type} {C:S->List Res->Prop} {s s':S} {fu:Func} {c:Code} {m:Nat} (hf:X.P.funcs[f]? = some fu) (hb:fu.body=some c) (hr:fu.results = #[]) (hi:X.intr f args=none) (hk:X.keep f=false) (ho:X.opn f=false) (hs:args.all PV.still=true)
  (hp:args.all PV.pure=false) (hm:max fu.ntmps args.length=m) (h:∀ G L,C s L->Hs G L->Runs X m f c (Z6p args) G (EndsI C s')):ItF X f args C s s':=by
 subst hm
 intro G L hC H
 obtain ⟨lf,x,e',G1,h1,hE⟩:=(h G L hC H).run
 obtain ⟨hx,L',hC',H'⟩:=hE.out
 refine ⟨G1,L',Z2j (lf:=lf) ?_,hC',H'⟩
 have hbody:Z1n X (Z0X X) lf f args G=some (.tup [],G1):=by
  simp only [Z1n,hf,hb,h1];rcases hx with rfl|rfl<;>simp [hr,Z0T,Z28]
 simp only [Z5d,hi,hk,Y0j,Y6,if_false,Z7B hs,ho,hp,hbody,Y0]
 rfl
section
variable {n:Nat} {dr:Bool} {fn:FuncId} {ops:Array Oper} {base i:Nat} {l:List Oper} {e:Env} {G:Heap} {K:Env->Heap->Prop} {Q:Ex->Env->Heap->Prop}
variable {d:Nat} {t:TypeId} {p:String} {af:Array Edge} {x:Operand} {lo hi:Nat} {L:List Res}
theorem Ops.callY {S T:Type} {C:S->List Res->Prop} {pvT:T->List PV} {y:S->T->Option (S×Bool)} {id:Nat} {args:Array Operand} {ts:Array TypeId} {s s':S} {z:T} {b:Bool} (O:List Res) (H:Has G lo hi (O++L)) (hC:C s L) (hx:Z0 X e x=some (.yld id)) (ha:ZZ X e args.toList=some (pvT z))
  (hy:YldH X id C pvT y) (hq:y s z=some (s',b)) (hdr:dr=false) (hd:Nat.blt d n=true)
  (hk:∀ G' L',C s' L'->Hs G' (O++L')->Ops X n dr ops base (i+1) l (set e d (.v (.bool b))) G' K) :
  Ops X n dr ops base i (⟨some d,.call { callee:=.value x,args:=args,argTypes:=ts },t,p,af,none⟩::l) e G K:=by
 obtain ⟨G',L',q1,q2,q3⟩:=hy _ _ _ _ hq G lo hi O L hC H
 exact .plain (x:=.v (.bool b)) (G1:=G') (by simp only [Z7,Zp,ha,hx,q1]) (λh=>by rw [hdr] at h;cases h) hd (hk G' L' q2 q3)
end
def RangeC (id:Nat) (fn:FuncId) (e:Env) (n:Nat) (ps:List Nat) (as_ bo:Code) {S:Type} (Co:S->List Res->Prop) (pd:Nat->Option Code):S×Nat->List Res->Prop :=
 λs L=>∃ M,Co s.1 M/\L = .loop id fn e n ps as_ bo (if s.2=0 then .ready else .done) (pd s.2)::M
variable {n:Nat} {fn:FuncId} {e:Env} {G:Heap} {Q:Ex->Env->Heap->Prop}
def BodyOK (X:Ctx) (n:Nat) (fn:FuncId) (e:Env) (ps:List Nat) (as_ bo:Code) {S T:Type} (Co:S->List Res->Prop) (pvT:T->List PV) (yb:S->T->Option (S×Nat)) (pd:Nat->Option Code):Prop :=
 ∀ (R0 R1:Res) s t s' p,yb s t=some (s',p)->∀ G M O,Co s M->Hs G (R0::(M++O)) ->
  Runs X n fn as_ (Z5Q e n ps (pvT t)) G λx e1 G1=>x = .normal/\∃ M1,Hs G1 (R0::(M1++O)) /\
   ∀ G2,Hs G2 (R1::(M1++O))->Runs X n fn bo e1 G2 λx e2 G3=>(pdOf x=pd p/\(x = .normal↔p=0))/\∃ M2,Co s' M2/\Hs G3 (R1::(M2++O))
theorem rangeY_ok {S T:Type} {ps:List Nat} {as_ bo:Code} {Co:S->List Res->Prop} {pvT:T->List PV} {yb:S->T->Option (S×Nat)} {pd:Nat->Option Code} (hpd:pd 0=none) (hlen:∀ t,ps.length=(pvT t).length) (hpure:∀ t,(pvT t).all PV.pure=true)
  (hbody:BodyOK X n fn e ps as_ bo Co pvT yb pd) (id:Nat):YldH X id (RangeC id fn e n ps as_ bo Co pd) pvT (Z4Q yb):=by
 rintro ⟨s,p⟩ t ⟨s',p'⟩ b hy G lo hi O L ⟨M,hM,rfl⟩ H
 unfold Z4Q at hy
 simp only at hy hM
 split at hy
 ·rename_i hp0;subst hp0;rw [Y1] at hy;obtain ⟨r,hr,he⟩:=hy;simp only [Y3] at he;obtain ⟨rfl,rfl⟩:=he;simp only [if_true,hpd] at H;have H1:Hs G (.loop id fn e n ps as_ bo .ready none::(M++O)):=(H.perm (by rw [<- Y0F];exact Y0t)).all
  obtain ⟨l1,x1,e1,G1,r1,rfl,M1,H2,hb⟩:=(hbody (.loop id fn e n ps as_ bo .ready none) (.loop id fn e n ps as_ bo .busy none) s t s' p' hr G M O hM H1).run;have hent:G1.ent id = .loop fn e n ps as_ bo .ready none:=H2.holds 0 _ rfl;have H3:Hs (G1.put id (.loop fn e n ps as_ bo .busy none)) (.loop id fn e n ps as_ bo .busy none::(M1++O)):=(H2.put (k:=0) rfl rfl (r':=.loop id fn e n ps as_ bo .busy none) Z1O rfl).all;obtain ⟨l2,x2,e2,G3,r2,⟨hx,hx0⟩,M2,hM2,H4⟩:=(hb _ H3).run;have hent0:G.ent id = .loop fn e n ps as_ bo .ready none:=H1.holds 0 _ rfl
  have fin:∀ (st:LoopState) (pc:Option Code),Hs (G3.put id (.loop fn e n ps as_ bo st pc)) (O++(.loop id fn e n ps as_ bo st pc::M2)):=λst pc=>
   ((H4.put (k:=0) rfl rfl (r':=.loop id fn e n ps as_ bo st pc) Z1O rfl).perm (by rw [List.set_cons_zero,<- Y0F];exact Y0t)).all
  have call:∀ (st:LoopState) (pc:Option Code) (b:Bool),(match x2 with
    | .normal=>some (PV.v (.bool true),G3.put id (.loop fn e n ps as_ bo .ready none))
    | .exit t=>some (PV.v (.bool false),G3.put id (.loop fn e n ps as_ bo .done (some (.exit t))))
    | .ret=>some (PV.v (.bool false),G3.put id (.loop fn e n ps as_ bo .done (some .ret))))=some (.v (.bool b),G3.put id (.loop fn e n ps as_ bo st pc)) ->
    Z0X X (.yld id) (pvT t) G=some (.v (.bool b),G3.put id (.loop fn e n ps as_ bo st pc)):=by
   intro st pc b hm;refine Z2j (lf:=max l1 l2) ?_;simp only [Z5d,hent0,hlen t,if_true,Z2g (hpure t),Z1w (Y16 l1 l2) r1,hent,Z1w (Y12 l1 l2) r2];exact hm
  cases x2 with
  | normal=>
   have hp0:=hx0.1 rfl;subst hp0;exact ⟨_,_,call .ready none true rfl,⟨M2,hM2,by simp [hpd]⟩,fin .ready none⟩
  | exit t'=>
   have hp0:p'≠0:=λh=>by have:=hx0.2 h;cases this
   have hbeq:(p'==0)=false:=by simpa using hp0
   rw [hbeq];exact ⟨_,_,call .done (some (.exit t')) false rfl,⟨M2,hM2,by simp only [if_neg hp0,<- hx,pdOf]⟩,fin .done _⟩
  | ret=>
   have hp0:p'≠0:=λh=>by have:=hx0.2 h;cases this
   have hbeq:(p'==0)=false:=by simpa using hp0
   rw [hbeq];exact ⟨_,_,call .done (some .ret) false rfl,⟨M2,hM2,by simp only [if_neg hp0,<- hx,pdOf]⟩,fin .done _⟩
 ·cases hy
theorem Runs.rangeH {S T:Type} {g:Operand} {ps:Array Tmp} {as_ bo:Code} {f:FuncId} {first caps:List PV} {M0:List Res} (H:Hs G M0) (hg:Z0 X e g=some (.clo f first caps))
  (Co:S->List Res->Prop) (pvT:T->List PV) (yb:S->T->Option (S×Nat)) (pd:Nat->Option Code) (hpd:pd 0=none) (hjd:∀ p,∃ x,Z8R (pd p)=some x) {s0:S} {r:S×Nat} (h0:Co s0 M0) (hlen:∀ t,ps.toList.length=(pvT t).length) (hpure:∀ t,(pvT t).all PV.pure=true)
  (hbody:BodyOK X n fn e ps.toList as_ bo Co pvT yb pd)
  (hit:∀ id,YldH X id (RangeC id fn e n ps.toList as_ bo Co pd) pvT (Z4Q yb)->ItF X f (first++[.yld id]++caps) (RangeC id fn e n ps.toList as_ bo Co pd) (s0,0) r)
  (hq:∀ x G' M',Z8R (pd r.2)=some x->Co r.1 M'->Hs G' M'->Q x e G'):Runs X n fn (.rangeFunc g ps as_ bo) e G Q:=by
 obtain ⟨m,ent⟩:=G
 let G1:Heap:=⟨m+1,upd ent m (.loop fn e n ps.toList as_ bo .ready none)⟩
 have H1:Hs G1 (.loop m fn e n ps.toList as_ bo .ready none::M0):=by
  have h1:Has (⟨m+1,ent⟩ : Heap) m (m+1) M0:=H.enter 1;exact (h1.push (b:=m) (en:=.loop fn e n ps.toList as_ bo .ready none) (YB _) (Nat.lt_succ_self _) (r':=.loop m fn e n ps.toList as_ bo .ready none) Z1O rfl).all
 obtain ⟨G2,L',hc,⟨M',hM',rfl⟩,H2⟩:=hit m (rangeY_ok hpd hlen hpure hbody m) G1 _ ⟨M0,h0,by simp [hpd]⟩ H1
 have hent:G2.ent m = .loop fn e n ps.toList as_ bo (if r.2=0 then .ready else .done) (pd r.2):=H2.holds 0 _ rfl
 have hnb:(if r.2=0 then LoopState.ready else LoopState.done)≠LoopState.busy:=by split<;>simp
 have Hf:Hs (G2.put m (.loop fn e n ps.toList as_ bo .exhausted (pd r.2))) M':=((H2.put (k:=0) rfl rfl (r':=.loop m fn e n ps.toList as_ bo .exhausted (pd r.2)) Z1O rfl).erase 0).all
 obtain ⟨x,hx⟩:=hjd r.2
 refine ⟨0,x,e,_,?_,hq x _ M' hx hM' Hf⟩
 simp only [ZB,hg]
 rw [show Z0X X (.fn f) (first++[PV.yld m]++caps) ⟨m+1,upd ent m (.loop fn e n ps.toList as_ bo .ready none)⟩=some (.tup [],G2) from hc]
 simp only [hent,if_neg hnb,hx]
theorem callO_of {f:FuncId} {args:List PV} {fu:Func} {c:Code} {m:Nat} {G:Heap} {Post:PV->Heap->Prop} (hf:X.P.funcs[f]? = some fu) (hb:fu.body=some c) (hi:X.intr f args=none) (hk:X.keep f=false) (ho:X.opn f=true) (hp:args.all PV.pure=true) (hm:max fu.ntmps args.length=m)
  (h:Runs X m f c (Z6p args) G λx e G'=>(x = .normal\/x = .ret)/\∃ xs,Z0T X.P e G' fu.results.toList=some xs/\Post (Z28 xs) G'):∃ r G',Z0X X (.fn f) args G=some (r,G')/\Post r G':=by
 subst hm
 obtain ⟨lf,x,e',G1,h1,hx,xs,h2,h3⟩:=h.run
 refine ⟨Z28 xs,G1,Z2j (lf:=lf) ?_,h3⟩
 have hbody:Z1n X (Z0X X) lf f args G=some (Z28 xs,G1):=by
  simp only [Z1n,hf,hb,h1];rcases hx with rfl|rfl<;>simp only [h2,YA]
 simp only [Z5d,hi,hk,Y6,if_false,Z2g hp,ho,if_true,hbody]
theorem Ops.callO {n:Nat} {dr:Bool} {ops:Array Oper} {base i:Nat} {l:List Oper} {e:Env} {G:Heap} {K:Env->Heap->Prop} {d:Nat} {t:TypeId} {p:String} {af:Array Edge}
  {f:FuncId} {args:Array Operand} {ts:Array TypeId} {ys:List PV} {Post:PV->Heap->Prop} (ha:ZZ X e args.toList=some ys) (hf:∃ r G',Z0X X (.fn f) ys G=some (r,G')/\Post r G') (hdr:dr=true->Z42 (Region.before ops) ops i=true) (hd:Nat.blt d n=true)
  (hk:∀ r G',Post r G'->Ops X n dr ops base (i+1) l (set e d r) G' K) :
  Ops X n dr ops base i (⟨some d,.call { callee:=.value (.func f),args:=args,argTypes:=ts },t,p,af,none⟩::l) e G K:=by
 obtain ⟨r,G',q1,q2⟩:=hf
 exact .plain (x:=r) (G1:=G') (by simp only [Z7,Zp,ha,Z0,q1]) (λh=>Z6v (hdr h)) hd (hk r G' q2)
end
end Go.Dn

namespace Go.Dn
open Go
theorem Has.pickT {G:Heap} {lo hi:Nat} {T:List Res} (A:List Res) (ks:List Nat) (hn:ks.Nodup) (hk:ks.all (Nat.blt · A.length)=true) (H:Has G lo hi (A++T)):Has G lo hi (Dn.pick A ks++T):=by
 have hk':∀ k∈ks,k<A.length:=λk h=>by
  have:=List.all_eq_true.1 hk k h;exact Y0C this
 have h:=H.pick (ks++(List.range T.length).map (A.length+·)) (by
  refine List.nodup_append.2 ⟨hn,?_,?_⟩
  ·exact List.Pairwise.map _ (λa b hab=>by omega) List.nodup_range
  ·intro a ha b hb;obtain ⟨j,_,rfl⟩:=List.mem_map.1 hb;have:=hk' a ha;omega)
 have fc:∀ (f g:Nat->Option Res) (l:List Nat),(∀ k∈l,f k=g k)->l.filterMap f=l.filterMap g:=by
  intro f g l
  induction l with
  | nil=>intro _;rfl
  | cons k l ih=>
   intro h;rw [List.filterMap_cons,List.filterMap_cons,h k Yg,ih λk hk=>h k (YY _ hk)]
 have fr:∀ (T:List Res),List.filterMap (λj=>T[j]?) (List.range T.length)=T:=by
  intro T
  induction T with
  | nil=>rfl
  | cons r T ih=>
   rw [Ye,List.range_succ_eq_map,List.filterMap_cons,List.filterMap_map];simp only [Y0E]
   congr 1
 have e:Dn.pick (A++T) (ks++(List.range T.length).map (A.length+·))=Dn.pick A ks++T:=by
  unfold Dn.pick;rw [List.filterMap_append]
  congr 1
  ·exact fc _ _ _ λk hm=>YW (hk' k hm)
  ·rw [List.filterMap_map];refine Eq.trans (fc _ _ _ λj _=>?_) (fr T);simp [Function.comp,Yc]
 rw [<- e];exact h
theorem Has.mem {G:Heap} {lo hi:Nat} {L:List Res} (H:Has G lo hi L):∀ r∈L,r.holds G/\∀ id,r.owner=some id->(id<lo\/hi<=id)/\id<G.nx:=λr hr=>by
 obtain ⟨k,hk⟩:=YC hr
 exact ⟨H.holds k r hk,H.lt k r hk⟩
abbrev Apart (r s:Res):Prop:=∀ id,r.owner=some id->s.owner≠some id
theorem Has.pw {G:Heap} {lo hi:Nat} {L:List Res} (H:Has G lo hi L):L.Pairwise Apart:=by
 rw [Y01]
 intro i j hi' hj hij
 exact H.sep i j _ _ (by omega) (Y2 hi') (Y2 hj)
theorem Has.mk' {G:Heap} {lo hi:Nat} {L:List Res} (hm:∀ r∈L,r.holds G/\∀ id,r.owner=some id->(id<lo\/hi<=id)/\id<G.nx) (hp:L.Pairwise Apart) (hle:hi<=G.nx):Has G lo hi L:=by
 refine ⟨λk r hk=>(hm r (Y7 hk)).1,λk r hk=>(hm r (Y7 hk)).2,λi j r s hij h1 h2=>?_,hle⟩
 obtain ⟨hi',rfl⟩:=List.getElem?_eq_some_iff.1 h1
 obtain ⟨hj',rfl⟩:=List.getElem?_eq_some_iff.1 h2
 rw [Y01] at hp
 rcases YL i j with h|h
 ·exact hp i j hi' hj' h
 ·intro id h3 h4;exact hp j i hj' hi' (by omega) id h4 h3
def holes (lo hi:Nat):List Res:=.floor hi::(List.range (hi-lo)).map λj=>.hole (lo+j)
theorem mem_holes {lo hi:Nat} {r:Res} (h:r∈holes lo hi):r = .floor hi\/∃ id,r = .hole id/\lo<=id/\id<hi:=by
 rcases List.mem_cons.1 h with h|h
 ·exact .inl h
 ·obtain ⟨j,hj,rfl⟩:=List.mem_map.1 h;have:=List.mem_range.1 hj;exact .inr ⟨_,rfl,by omega,by omega⟩
theorem Has.holesIn {G:Heap} {lo hi:Nat} {L:List Res} (H:Has G lo hi L):Hs G (L++holes lo hi):=by
 refine Has.mk' (λr hr=>?_) ?_ (YB _)
 ·rcases List.mem_append.1 hr with h|h
  ·exact ⟨(H.mem r h).1,λid ho=>⟨.inl ((H.mem r h).2 id ho).2,((H.mem r h).2 id ho).2⟩⟩
  ·rcases mem_holes h with rfl|⟨id,rfl,h1,h2⟩
   ·exact ⟨H.le,λid ho=>by cases ho⟩
   ·refine ⟨trivial,λid' ho=>?_⟩;cases ho;have:=H.le;exact ⟨.inl (by omega),by omega⟩
 ·refine List.pairwise_append.2 ⟨H.pw,?_,?_⟩
  ·refine List.pairwise_cons.2 ⟨λr _ id ho=>(by cases ho),?_⟩
   refine List.Pairwise.map _ ?_ List.nodup_range;intro a b hab id h1 h2;have h1:lo+a=id:=Option.some.inj h1;have h2:lo+b=id:=Option.some.inj h2;omega
  ·intro r hr s hs id h1 h2;have:=((H.mem r hr).2 id h1).1;rcases mem_holes hs with rfl|⟨id',rfl,h3,h4⟩
   ·cases h2
   ·cases h2;omega
theorem Has.holesOut {G:Heap} {lo hi:Nat} {A L:List Res} (H:Hs G (A++(L++holes lo hi))):Has G lo hi (A++L):=by
 rw [<- Yu] at H
 have hp:=List.pairwise_append.1 H.pw
 refine Has.mk' (λr hr=>?_) hp.1 ?_
 ·have h1:=H.mem r (Yj _ hr);refine ⟨h1.1,λid ho=>⟨?_,(h1.2 id ho).2⟩⟩;rcases YL id lo with h|h
  ·exact .inl h
  ·rcases YL id hi with h'|h'
   ·exact absurd rfl (hp.2.2 r hr (.hole id) (YY _ (List.mem_map.2 ⟨id-lo,List.mem_range.2 (by omega),by congr 1;omega⟩)) id ho)
   ·exact .inr h'
 ·exact (H.mem (.floor hi) (Yq _ Yg)).1
section
variable {X:Ctx} {f:FuncId} {fu:Func} {c:Code} {m:Nat} {G:Heap} {cv:PV} {ys args:List PV} {L:List Res} {PostA:PV->List Res->Prop}
def CallI (X:Ctx) (cv:PV) (ys:List PV) (G:Heap) (T:List Res) (PostA:PV->List Res->Prop):Prop:=∃ r G' A,callV X cv ys G=some (r,G')/\PostA r A/\Hs G' (A++T)
theorem Z7R (hf:X.P.funcs[f]? = some fu) (hb:fu.body=some c) (hcv:∀ G,callV X cv ys G=Z0X X (.fn f) args G) (hi:X.intr f args=none) (hk:X.keep f=true) (ho:X.opn f=true) (hm:max fu.ntmps args.length=m) {T:List Res}
  (h:Runs X m f c (Z6p args) G λx e G'=>(x = .normal\/x = .ret)/\∃ xs,Z0T X.P e G' fu.results.toList=some xs/\∃ A,PostA (Z28 xs) A/\Hs G' (A++T)):CallI X cv ys G T PostA:=by
 subst hm
 obtain ⟨lf,x,e',G1,h1,hx,xs,h2,A,h3,h4⟩:=h.run
 refine ⟨Z28 xs,G1,A,?_,h3,h4⟩
 rw [hcv]
 refine Z2j (lf:=lf) ?_
 have hbody:Z1n X (Z0X X) lf f args G=some (Z28 xs,G1):=by
  simp only [Z1n,hf,hb,h1];rcases hx with rfl|rfl<;>simp only [h2,YA]
 simp only [Z5d,hi,hk,if_true,ho,hbody]
theorem callIO_of (hf:X.P.funcs[f]? = some fu) (hb:fu.body=some c) (hcv:∀ G,callV X cv ys G=Z0X X (.fn f) args G) (hi:X.intr f args=none) (hk:X.keep f=false) (ho:X.opn f=true) (hp:args.all PV.pure=true) (hm:max fu.ntmps args.length=m) {T:List Res}
  (h:Runs X m f c (Z6p args) G λx e G'=>(x = .normal\/x = .ret)/\∃ xs,Z0T X.P e G' fu.results.toList=some xs/\∃ A,PostA (Z28 xs) A/\Hs G' (A++T)):CallI X cv ys G T PostA:=by
 obtain ⟨r,G',h1,A,h2,h3⟩:=callO_of (Post:=λr G'=>∃ A,PostA r A/\Hs G' (A++T)) hf hb hi hk ho hp hm h
 exact ⟨r,G',A,by rw [hcv];exact h1,h2,h3⟩
end
section
variable {X:Ctx} {n:Nat} {dr:Bool} {fn:FuncId} {ops:Array Oper} {base i:Nat} {l:List Oper} {e:Env} {G:Heap} {K:Env->Heap->Prop}
variable {d:Nat} {t t1:TypeId} {p:String} {af:Array Edge} {x:Operand} {lo hi:Nat} {L:List Res}
theorem callV_step {cv:PV} {args:List PV} {r:PV} {G':Heap} {c:Call} {id0:Nat} (hc:c.callee = .value x) (hx:Z0 X e x=some cv) (ha:ZZ X e c.args.toList=some args) (h:Dn.callV X cv args G=some (r,G')):Zp X (Z0X X) e G id0 c=some (r,G'):=by
 simp only [Zp,ha,hc,hx]
 unfold Dn.callV at h
 split at h
 ·exact h
 ·exact h
 ·cases h
theorem Sub.more {C L M:List Res} (h:Sub C L):Sub C (L++M):=by
 induction h with
 | nil=>exact .nil
 | cons k h t ih=>
  refine .cons k ?_ ih;rw [YW (List.getElem?_eq_some_iff.1 h).1,h]
theorem ZD1 {cv:PV} {ys:List PV} {PostA:PV->List Res->Prop} (A:List Res) (H:Has G lo hi (A++L)) (hf:∀ T,(∀ C,Sub C L->Sub C T)->Hs G (A++T)->CallI X cv ys G T PostA) :
  ∃ r G' A',Dn.callV X cv ys G=some (r,G')/\PostA r A'/\Has G' lo hi (A'++L):=by
 have hsub:∀ C,Sub C L->Sub C (L++holes lo hi):=λC h=>h.more
 have H1:=H.holesIn
 rw [Yu] at H1
 obtain ⟨r,G',A',h1,h2,h3⟩:=hf (L++holes lo hi) hsub H1
 exact ⟨r,G',A',h1,h2,h3.holesOut⟩
theorem Ops.callI {cv:PV} {args:Array Operand} {ts:Array TypeId} {ys:List PV} {PostA:PV->List Res->Prop} (A:List Res) (H:Has G lo hi (A++L)) (hx:Z0 X e x=some cv) (ha:ZZ X e args.toList=some ys) (hf:∀ T,(∀ C,Sub C L->Sub C T)->Hs G (A++T)->CallI X cv ys G T PostA) (hdr:dr=true->Z42 (Region.before ops) ops i=true) (hd:Nat.blt d n=true)
  (hk:∀ r A' G',PostA r A'->Has G' lo hi (A'++L)->Ops X n dr ops base (i+1) l (set e d r) G' K) :
  Ops X n dr ops base i (⟨some d,.call { callee:=.value x,args:=args,argTypes:=ts },t,p,af,none⟩::l) e G K:=by
 obtain ⟨r,G',A',q1,q2,q3⟩:=ZD1 A H hf
 exact .plain (x:=r) (G1:=G') (by simp only [Z7];exact callV_step rfl hx ha q1) (λh=>Z6v (hdr h)) hd (hk r A' G' q2 q3)
def FnO (X:Ctx) (f:FuncId) (args:List PV) (PostA:PV->List Res->Prop):Prop:=∀ G T,Hs G T->CallI X (.v (.fn f)) args G T PostA
theorem FnO.of {f:FuncId} {fu:Func} {c:Code} {m:Nat} {args:List PV} {PostA:PV->List Res->Prop} (hf:X.P.funcs[f]? = some fu) (hb:fu.body=some c) (hi:X.intr f args=none) (hk:X.keep f=false) (ho:X.opn f=true) (hp:args.all PV.pure=true) (hm:max fu.ntmps args.length=m)
  (h:∀ G T,Hs G T->Runs X m f c (Z6p args) G λx e G'=>(x = .normal\/x = .ret)/\∃ xs,Z0T X.P e G' fu.results.toList=some xs/\∃ A,PostA (Z28 xs) A/\Hs G' (A++T)):FnO X f args PostA :=
 λG T H=>callIO_of hf hb (λ_=>rfl) hi hk ho hp hm (h G T H)
theorem Ops.ZBv {f:FuncId} {args:Array Operand} {ts:Array TypeId} {ys:List PV} {PostA:PV->List Res->Prop} (H:Has G lo hi L) (ha:ZZ X e args.toList=some ys) (hf:FnO X f ys PostA) (hdr:dr=true->Z42 (Region.before ops) ops i=true) (hd:Nat.blt d n=true)
  (hk:∀ r A' G',PostA r A'->Has G' lo hi (A'++L)->Ops X n dr ops base (i+1) l (set e d r) G' K) :
  Ops X n dr ops base i (⟨some d,.call { callee:=.value (.func f),args:=args,argTypes:=ts },t,p,af,none⟩::l) e G K :=
 Ops.callI [] H rfl ha (λT _ H=>hf G T H) hdr hd hk
theorem Ops.Z0i {id ver off:Nat} {te:TypeId} {cells:List PV} (H:Has G lo hi L) (k:Nat) (hk:L[k]? = some (.blk id te cells)) (hv:cells.length=ver) (hx:Z0 X e x=some (.ptr id ver off)) (ha:dr=true->Seen ops base i id false) (hd:Nat.blt d n=true)
  (hk':Ops X n dr ops base (i+1) l (set e d (.ptr id ver off)) G K):Ops X n dr ops base i (⟨some d,.nilCheck x,t,p,af,none⟩::l) e G K:=by
 refine .plain (x:=.ptr id ver off) (G1:=G) ?_ (λh=>Z2L (ids:=[id]) rfl ?_ (λj hj=>by simp at hj;subst hj;exact ha h)) hd hk'
 ·simp only [Z7,hx,H.cur hk hv,if_true]
 ·simp only [touched,Zg,YF,YO,hx,vids,YK]
inductive ExpP:List Res->List (Nat×PV)->List (Nat×PV)->List Res->Prop
 | nil {L:List Res}:ExpP L [] [] L
 | keep {L L':List Res} {j:Nat} {x:PV} {ps qs:List (Nat×PV)} (h:Z7f x=false) (t:ExpP L ps qs L'):ExpP L ((j,x)::ps) ((j,x)::qs) L'
 | exp {L L1 L2:List Res} {j:Nat} {x y:PV} {ps qs:List (Nat×PV)} (h:ExpV L x y L1) (t:ExpP L1 ps qs L2):ExpP L ((j,x)::ps) ((j,y)::qs) L2
theorem ZCt {x:PV} {y:FV} {L':List Res} (H:Has G lo hi L) (h:ExpC L x y L') (hr:isRef x=false):x = .v y/\L'=L:=by
 cases h with
 | v y=>exact ⟨rfl,rfl⟩
 | n=>cases hr
 | full xs=>cases hr
 | ro h=>
  rcases h with ⟨rfl,rfl⟩|rfl
  ·cases hr
  ·exact ⟨rfl,rfl⟩
 | s k h=>
  rcases (H.sl h).2 with ⟨rfl,_⟩|⟨id,rfl,_⟩<;>cases hr
theorem ZC5:∀ {xs:List PV} {ys:List FV} {L L':List Res},Has G lo hi L->ExpCs L xs ys L'->xs.any isRef=false->xs=vs ys/\L'=L
 | [],ys,L,L',H,h,_=>by cases h;exact ⟨rfl,rfl⟩
 | x::xs,ys,L,L',H,h,hr=>by
  simp only [List.any_cons,Y0W] at hr;cases h with
  | cons h t=>
   obtain ⟨rfl,rfl⟩:=ZCt H h hr.1;obtain ⟨rfl,rfl⟩:=ZC5 H t hr.2;exact ⟨rfl,rfl⟩
theorem expV_noref {x y:PV} {L':List Res} (H:Has G lo hi L) (h:ExpV L x y L') (hr:Z7f x=false):y=x/\L'=L:=by
 cases h with
 | c h=>
  have:isRef x=false:=by cases x<;>first|rfl|exact hr
  obtain ⟨rfl,rfl⟩:=ZCt H h this;exact ⟨rfl,rfl⟩
 | a h=>
  obtain ⟨rfl,rfl⟩:=ZC5 H h hr;exact ⟨rfl,rfl⟩
 | p h=>exact ⟨rfl,rfl⟩
theorem fvsOf_vs (l:List FV):fvsOf (vs l)=some l:=by
 induction l with
 | nil=>rfl
 | cons x l ih=>show (fvsOf (vs l)).map (x::·)=_;rw [ih];rfl
theorem frzC_ok {x:PV} {y:FV} {L':List Res} (H:Has G lo hi L) (h:ExpC L x y L'):∃ G',Z4w G x=some (.v y,G')/\Has G' lo hi L'/\G'.nx=G.nx:=by
 cases h with
 | v y=>exact ⟨G,rfl,H,rfl⟩
 | n=>exact ⟨G,rfl,H,rfl⟩
 | full xs=>exact ⟨G,rfl,H,rfl⟩
 | ro h=>rcases h with ⟨rfl,rfl⟩|rfl<;>exact ⟨G,rfl,H,rfl⟩
 | @s _ et sz xs lv k h=>
  obtain ⟨hs,hv⟩:=H.sl h;rcases hv with ⟨rfl,rfl⟩|⟨id,rfl,hb⟩
  ·exact ⟨G,rfl,H.say h ⟨by simp,.inl ⟨rfl,rfl⟩⟩ rfl,rfl⟩
  ·refine ⟨G.put id (.blk et (vs xs.flatten) false),?_,H.put h rfl (r':=.sl (.buf id xs.length sz) et sz xs false) ⟨hs,.inr ⟨id,rfl,Z1O⟩⟩ rfl,rfl⟩;simp only [Z4w,hb];rw [if_pos (by rw [Z0d,Z0G hs]),fvsOf_vs,YA,Z7u hs]
theorem frzCs_ok:∀ {xs:List PV} {G:Heap} {L L':List Res} {ys:List FV},Has G lo hi L->ExpCs L xs ys L'->∃ G',Z3g G xs=some (vs ys,G')/\Has G' lo hi L'/\G'.nx=G.nx
 | [],G,L,L',ys,H,h=>by cases h;exact ⟨G,rfl,H,rfl⟩
 | x::xs,G,L,L',ys,H,h=>by
  cases h with
  | cons h t=>
   obtain ⟨G1,q1,q2,q3⟩:=frzC_ok H h;obtain ⟨G2,p1,p2,p3⟩:=frzCs_ok q2 t;exact ⟨G2,by simp only [Z3g,q1,Y0,p1];rfl,p2,p3.trans q3⟩
theorem frzV_ok {x y:PV} {L':List Res} (H:Has G lo hi L) (h:ExpV L x y L') (hn:Z7f x=true):∃ G',Z3i G x=some (y,G')/\Has G' lo hi L'/\G'.nx=G.nx:=by
 cases h with
 | c h=>
  obtain ⟨G',q1,q2,q3⟩:=frzC_ok H h
  refine ⟨G',?_,q2,q3⟩;cases h with
  | v y=>cases hn
  | n=>simp only [Z3i,q1]
  | full xs=>simp only [Z3i,q1]
  | ro h=>
   rcases h with ⟨rfl,rfl⟩|rfl
   ·simp only [Z3i,q1]
   ·cases hn
  | s k h=>
   obtain ⟨_,⟨rfl,rfl⟩|⟨id,rfl,hb⟩⟩:=H.sl h
   ·simp only [Z3i,q1]
   ·simp only [Z3i,q1]
 | a h=>
  obtain ⟨G',q1,q2,q3⟩:=frzCs_ok H h;exact ⟨G',by simp only [Z3i,q1,Y0],q2,q3⟩
 | p h=>
  exfalso
  cases x<;>simp [PV.pure] at h<;>simp [Z7f] at hn;obtain ⟨z,hz,hz2⟩:=hn;have:=h z hz;cases z<;>simp [PV.isV] at this;simp [isRef] at hz2
theorem expP_ok:∀ {ps qs:List (Nat×PV)} {G:Heap} {L L':List Res},Has G lo hi L->ExpP L ps qs L'->∃ G',Z14 G ps=some (qs,G')/\Has G' lo hi L'/\G'.nx=G.nx
 | [],qs,G,L,L',H,h=>by cases h;exact ⟨G,rfl,H,rfl⟩
 | p::ps,qs,G,L,L',H,h=>by
  cases h with
  | keep h t=>
   obtain ⟨G1,q1,q2,q3⟩:=expP_ok H t;exact ⟨G1,by simp only [Z14,h,Y6,if_false,q1,Y0],q2,q3⟩
  | @exp _ L1 _ j x y ps qs h t=>
   by_cases hr:Z7f x=true
   ·obtain ⟨G1,q1,q2,q3⟩:=frzV_ok H h hr;obtain ⟨G2,p1,p2,p3⟩:=expP_ok q2 t;exact ⟨G2,by simp only [Z14,hr,if_true,q1,Y0,p1],p2,p3.trans q3⟩
   ·have hr:Z7f x=false:=by simpa using hr
    obtain ⟨rfl,rfl⟩:=expV_noref H h hr;obtain ⟨G2,p1,p2,p3⟩:=expP_ok H t;exact ⟨G2,by simp only [Z14,hr,Y6,if_false,Y0,p1],p2,p3⟩
def FrzOK (ops:Array Oper) (base i:Nat) (pp:List (Nat×PV)):Prop :=
 Z42 (Region.before ops) ops i=true\/∃ ms:List Nat,(pp.flatMap λp=>Z78 p.2)=ms.map (base+·) /\
  (ms.all λm=>Nat.blt m ops.size&&((Region.before ops).getD i 0).testBit m&&(List.range ops.size).all λj=>!(unord (Region.before ops) i j&&((Region.before ops).getD j 0).testBit m))=true
theorem ask_frz {parts:Array (Nat×Operand)} {len:Nat} {pp:List (Nat×PV)} (hp:Z4O X e parts.toList=some pp) (hh:X.hold t1 parts.toList=false) (h:FrzOK ops base i pp):Z07 X ops base i ⟨some d,.buildSlice t1 len parts,t,p,af,none⟩ e=true:=by
 rcases h with h|⟨ms,h1,h2⟩
 ·exact Z6v h
 ·refine ask0 ?_;have hf:frozen X e (.buildSlice t1 len parts)=ms.map (base+·):=by simp only [frozen,hp,h1,hh]
  simp only [Zu,Z0O,hf];refine List.all_eq_true.2 λk hk=>?_;obtain ⟨m,hm,rfl⟩:=List.mem_map.1 hk;have:=List.all_eq_true.1 h2 m hm;simp only [Y8] at this;simp only [Yr,Y8,decide_eq_true_eq];exact ⟨⟨⟨Y11 _ _,by have:=ZBU this.1.1;omega⟩,this.1.2⟩,this.2⟩
theorem Ops.buildSF {parts:Array (Nat×Operand)} {len sz:Nat} {el:TypeId} {zs:List PV} {pp qq:List (Nat×PV)} {L':List Res} (xs:List (List FV)) (H:Has G lo hi L) (hlo:lo<=base+i) (hhi:base+i<hi)
  (ht:tslice X.P t1=some el) (hp:Z4O X e parts.toList=some pp) (hE:ExpP L pp qq L') (hs:tsize X.P el=some sz) (hz:tzero X.P el=some zs) (hc:(zs.length==sz&&sz != 0&&Nat.ble (len*sz) 1000000)=true)
  (hf:Z6q (λi=>some (i*sz,sz)) (List.replicate len zs).flatten qq=some (vs xs.flatten)) (hl:xs.length=len) (hx:xs.all (λy=>y.length==sz)=true) (hd:Nat.blt d n=true) (hdr:dr=true->FrzOK ops base i pp)
  (hk:∀ G',Has G' (base+i+1) hi (.sl (.buf (base+i) len sz) el sz xs true::L')->Ops X n dr ops base (i+1) l (set e d (.buf (base+i) len sz)) G' K) (hlit:X.lit=false:=by rfl) (hh:X.hold t1 parts.toList=false:=by rfl) :
  Ops X n dr ops base i (⟨some d,.buildSlice t1 len parts,t,p,af,none⟩::l) e G K:=by
 simp only [Y8,beq_iff_eq,bne_iff_ne,ne_eq,Nat.ble_eq] at hc
 obtain ⟨G1,q1,H1,q3⟩:=expP_ok H hE
 have hl0:(X.lit&&len != 0)=false:=by rw [hlit];rfl
 refine .plain (x:=.buf (base+i) len sz) (G1:=G1.put (base+i) (.blk el (vs xs.flatten) true)) ?_ (λh=>ask_frz hp hh (hdr h)) hd (hk _ (H1.push hlo hhi (r':=.sl (.buf (base+i) len sz) el sz xs true) ?_ rfl))
 ·simp only [Z7,Z1l,hp,Y0,hh,Z92,q1,Z2f,ht,hs,hz];rw [if_pos ⟨hc.1.1,hc.1.2,hc.2⟩,hf];simp only [litR,hl0];rfl
 ·exact ⟨λy hy=>by have:=List.all_eq_true.1 hx y hy;simpa using this,.inr ⟨base+i,by rw [hl],Z1O⟩⟩
end
theorem loopD_up (step step':Env->Heap->Option Out) (hst:∀ e G r,step e G=some r->step' e G=some r) (j j':Nat) (hj:j<=j') (e:Env) (G:Heap) (r:Out) (h:Z2c step j e G=some r):Z2c step' j' e G=some r:=by
 induction j generalizing j' e G r with
 | zero=>simp [Z2c] at h
 | succ j ihj=>
  obtain ⟨j',rfl⟩ : ∃ i,j'=i+1:=⟨j'-1,by omega⟩
  simp only [Z2c] at h ⊢
  split at h
  ·rename_i h1;rw [hst _ _ _ h1];exact ihj j' (by omega) _ _ _ h
  ·rename_i hn;rw [hst _ _ _ h]
   split
   ·rename_i heq;rw [h] at hn;cases heq;exact absurd rfl (hn _ _)
   ·rfl
theorem Runs.again {X:Ctx} {n:Nat} {fn:FuncId} {c:Code} {e:Env} {G:Heap} {Q:Ex->Env->Heap->Prop} (h:Runs X n fn c e G (Then' (λe G=>Runs X n fn (.loop c) e G Q) Q)):Runs X n fn (.loop c) e G Q:=by
 obtain ⟨l1,x,e1,G1,h1,h2⟩:=h.run
 cases x with
 | normal=>
  obtain ⟨l2,y,e2,G2,h3,h4⟩:=Runs.run h2;refine ⟨max l1 l2+1,y,e2,G2,?_,h4⟩;simp only [ZB] at h3 ⊢;simp only [Z2c,Z1w (show l1<=max l1 l2+1 by omega) h1]
  exact loopD_up _ _ (λe G r h=>Z1w (show l2<=max l1 l2+1 by omega) h) l2 _ (by omega) _ _ _ h3
 | exit id=>
  refine ⟨l1+1,_,e1,G1,?_,h2⟩;simp only [ZB,Z2c,Z1w (show l1<=l1+1 by omega) h1]
 | ret=>
  refine ⟨l1+1,_,e1,G1,?_,h2⟩;simp only [ZB,Z2c,Z1w (show l1<=l1+1 by omega) h1]
end Go.Dn

namespace Go.Dn
open Go
section
variable {X:Ctx} {n:Nat} {fn:FuncId} {ops:Array Oper} {base i:Nat} {l:List Oper} {e:Env} {G:Heap} {K:Env->Heap->Prop}
variable {d:Nat} {t t1:TypeId} {p:String} {af:Array Edge} {x y z:Operand} {lo hi k:Nat} {L:List Res}
end
theorem Ops.na {X:Ctx} {n:Nat} {dr:Bool} {ops:Array Oper} {base i:Nat} {e:Env} {G:Heap} {K:Env->Heap->Prop} {lo hi:Nat} {L:List Res} (H:Has G lo hi L) (h:Hs G L->K e G):Ops X n dr ops base i [] e G K:=.nil (h H.all)
theorem callO_exp {X:Ctx} {f:FuncId} {args ys:List PV} {r:PV} {G G' G2:Heap} (hk:X.keep f=false) (ho:X.opn f=true) (hi0:X.intr f args=none) (hi1:X.intr f ys=none) (he:Z1I G args=some (ys,G')) (hp:ys.all PV.pure=true) (h:Z0X X (.fn f) ys G'=some (r,G2)):Z0X X (.fn f) args G=some (r,G2):=by
 obtain ⟨k,hk'⟩:=Z1Z.1 h
 refine Z1Z.2 ⟨k,?_⟩
 cases k with
 | zero=>simp [Z0Y] at hk'
 | succ k=>
  simp only [Z0Y,hi1,hk,Y6,if_false,Z2g hp,ho,if_true] at hk';simp only [Z0Y,hi0,hi1,hk,Y6,if_false,he,ho,if_true];exact hk'
theorem Ops.callFOX {X:Ctx} {n:Nat} {dr:Bool} {ops:Array Oper} {base i:Nat} {l:List Oper} {e:Env} {G:Heap} {K:Env->Heap->Prop} {d:Nat} {t:TypeId} {p:String} {af:Array Edge} {lo hi:Nat} {L:List Res}
  {f:FuncId} {args:Array Operand} {ts:Array TypeId} {xs ys:List PV} {PostA:PV->List Res->Prop} {L':List Res} (H:Has G lo hi L) (ha:ZZ X e args.toList=some xs) (hE:ExpVs L xs ys L') (hf:FnO X f ys PostA) (hk0:X.keep f=false) (ho:X.opn f=true) (hi0:X.intr f xs=none) (hi1:X.intr f ys=none) (hdr:dr=true->Z42 (Region.before ops) ops i=true) (hd:Nat.blt d n=true)
  (hk:∀ r A' G',PostA r A'->Has G' lo hi (A'++L')->Ops X n dr ops base (i+1) l (set e d r) G' K) :
  Ops X n dr ops base i (⟨some d,.call { callee:=.value (.func f),args:=args,argTypes:=ts },t,p,af,none⟩::l) e G K:=by
 obtain ⟨G',_,q1,q2,_,q3⟩:=Z8p H hE
 obtain ⟨r,G2,A',p1,p2,p3⟩:=ZD1 (X:=X) (cv:=.v (.fn f)) (ys:=ys) (PostA:=PostA) [] q2 (λT _ H=>hf G' T H)
 refine .plain (x:=r) (G1:=G2) ?_ (λh=>Z6v (hdr h)) hd (hk r A' G2 p2 p3)
 simp only [Z7,Zp,ha,Z0]
 exact callO_exp hk0 ho hi0 hi1 q1 q3 p1
section
variable {X:Ctx} {n:Nat} {dr:Bool} {ops:Array Oper} {base i:Nat} {l:List Oper} {e:Env} {G:Heap} {K:Env->Heap->Prop}
variable {d:Nat} {t t1:TypeId} {p:String} {af:Array Edge} {x y z:Operand} {lo hi k:Nat} {L:List Res}
end
end Go.Dn

namespace Go.Dn
open Go
def Res.solid:Res->Bool
 | .hole _=>false
 | _=>true
def star (G:Heap):Res->Res
 | .hole id=>.fix id (G.ent id)
 | r=>r
theorem ZD0 {G:Heap} {r:Res}:(star G r).owner=r.owner:=by cases r<;>rfl
theorem star_holds {G:Heap} {r:Res} (h:r.holds G):(star G r).holds G:=by cases r<;>first|exact h|exact rfl
theorem solid_star {G:Heap} {r:Res} (h:r.solid=true):star G r=r:=by cases r<;>first|rfl|cases h
section
variable {G:Heap} {lo hi:Nat} {L C:List Res}
theorem Has.star (H:Has G lo hi L):Has G G.nx G.nx (L.map (star G)):=by
 refine ⟨λk r h=>?_,λk r h id ho=>?_,λj k r s hjk h1 h2 id ho=>?_,YB _⟩
 ·rw [YS,Y1] at h;obtain ⟨q,hq,rfl⟩:=h;exact star_holds (H.holds k q hq)
 ·rw [YS,Y1] at h;obtain ⟨q,hq,rfl⟩:=h;rw [ZD0] at ho;have:=(H.lt k q hq id ho).2;exact ⟨.inl this,this⟩
 ·rw [YS,Y1] at h1 h2;obtain ⟨q,hq,rfl⟩:=h1;obtain ⟨q',hq',rfl⟩:=h2;rw [ZD0] at ho ⊢;exact H.sep j k q q' hjk hq hq' id ho
theorem Has.add (H:Has G G.nx G.nx L) {id:Nat} (hl:id<G.nx) (hn:∀ r∈L,r.owner≠some id):Has G G.nx G.nx (.fix id (G.ent id)::L):=by
 refine ⟨λj s h=>?_,λj s h id' ho2=>?_,λi j s t hij h1 h2 id' hs=>?_,H.le⟩
 ·cases j with
  | zero=>cases h;exact rfl
  | succ j=>exact H.holds j s h
 ·cases j with
  | zero=>cases h;cases ho2;exact ⟨.inl hl,hl⟩
  | succ j=>exact H.lt j s h id' ho2
 ·cases i with
  | zero=>
   cases h1;cases hs;cases j with
   | zero=>exact absurd rfl hij
   | succ j=>exact hn t (Y7 h2)
  | succ i=>
   cases j with
   | zero=>
    cases h2;intro e;cases e;exact hn s (Y7 h1) hs
   | succ j=>exact H.sep i j s t (λe=>hij (by rw [e])) h1 h2 id' hs
def fixL (G:Heap) (L:List Res):Nat->List Res
 | 0=>L.map (star G)
 | k+1=>if (fixL G L k).any (λr=>r.owner==some k) then fixL G L k else .fix k (G.ent k)::fixL G L k
theorem Sub.star {C L:List Res} (h:Sub C L):C.all Res.solid=true->Sub C (L.map (star G)):=by
 induction h with
 | nil=>intro _;exact .nil
 | cons k h t ih=>
  intro hs;simp only [Yy,Y8] at hs;exact .cons k (by rw [YS,h,YA,solid_star hs.1]) (ih hs.2)
end
section
variable {X:Ctx} {n:Nat} {dr:Bool} {fn:FuncId} {ops:Array Oper} {base i:Nat} {l:List Oper} {e:Env} {G:Heap} {K:Env->Heap->Prop}
variable {d:Nat} {t:TypeId} {p:String} {af:Array Edge} {x:Operand} {lo hi:Nat} {L C:List Res}
theorem Ops.stepS {o:Oper} {e1:Env} {G1:Heap} (h:Z1K X (Z0X X) n ops base i o e G=some (e1,G1)) (ha:dr=true->Z59 X (Z0X X) ops base i o e G) (hk:Ops X n dr ops base (i+1) l e1 G1 K):Ops X n dr ops base i (o::l) e G K:=by
 obtain ⟨e',G',h1,h2⟩:=hk.run
 refine ⟨⟨e',G',?_,h2⟩⟩
 cases dr with
 | false=>
  simp only [Y6,if_false] at h1 ⊢;simp only [Z35,h,Y0,h1]
 | true=>
  simp only [if_true] at h1 ⊢;have:Z11 X (Z0X X) n ops base i o e G=some (e1,G1):=by
   unfold Z11
   split
   ·rw [if_pos (ha rfl)];exact h
   ·exact h
  simp only [Z24,this,Y0,h1]
end
inductive FzC (L:List Res):PV->FV->Prop
 | v (y:FV):FzC L (.v y) y
 | n:FzC L .nils (.sl [])
 | ro {v:PV} {xs:List (List FV)} (h:RO v xs):FzC L v (.sl xs)
 | s {v:PV} {et:TypeId} {sz:Nat} {xs:List (List FV)} (k:Nat) (h:L[k]? = some (.sl v et sz xs false)):FzC L v (.sl xs)
inductive FzCs (L:List Res):List PV->List FV->Prop
 | nil:FzCs L [] []
 | cons {x:PV} {y:FV} {xs:List PV} {ys:List FV} (h:FzC L x y) (t:FzCs L xs ys):FzCs L (x::xs) (y::ys)
inductive FzV (L:List Res):PV->PV->Prop
 | c {x:PV} {y:FV} (h:FzC L x y):FzV L x (.v y)
 | a {xs:List PV} {ys:List FV} (h:FzCs L xs ys):FzV L (.agg xs) (.agg (vs ys))
 | p {x:PV} (h:x.pure=true):FzV L x x
inductive FzVs (L:List Res):List PV->List PV->Prop
 | nil:FzVs L [] []
 | cons {x y:PV} {xs ys:List PV} (h:FzV L x y) (t:FzVs L xs ys):FzVs L (x::xs) (y::ys)
section
variable {G:Heap} {lo hi:Nat} {L:List Res}
end
def PV.one:PV->Bool
 | .v _=>true
 | .fptr _=>true
 | .ptr _ _ _=>true
 | .clo _ _ _=>true
 | .yld _=>true
 | _=>false
theorem Z1g {x:PV} (h:x.one=true):x.still=true:=by cases x<;>first|rfl|cases h
end Go.Dn

namespace Go.Dn
open Go
def cF (n:Nat):List FV:=[.fn n]
def tailsOK (ops:Array Oper):Nat->List Oper->Bool
 | _,[]=>true
 | k,o::l=>(o.after.all λe=>!Region.binds .any e||decide (e.on<k))&&(l.all λoj=>oj.after.any (λe=>Region.binds .any e&&e.on==k)||o.apart ops oj)&&tailsOK ops (k+1) l
section
variable {X:Ctx} {n:Nat} {dr:Bool} {ops:Array Oper} {base i:Nat} {l:List Oper} {e:Env} {G:Heap} {K:Env->Heap->Prop}
variable {d:Nat} {t t1:TypeId} {p:String} {af:Array Edge} {x y:Operand} {lo hi:Nat} {L:List Res}
end
end Go.Dn

namespace Go.Dn
open Go
theorem p2 {A B:Type} {a a':A} {b b':B} (h:(a,b)=(a',b')):a=a'/\b=b':=by cases h;exact ⟨rfl,rfl⟩
theorem p3 {A B C:Type} {a a':A} {b b':B} {c c':C} (h:(a,b,c)=(a',b',c')):a=a'/\b=b'/\c=c':=by cases h;exact ⟨rfl,rfl,rfl⟩
theorem p4 {A B C Dd:Type} {a a':A} {b b':B} {c c':C} {d d':Dd} (h:(a,b,c,d)=(a',b',c',d')):a=a'/\b=b'/\c=c'/\d=d':=by cases h;exact ⟨rfl,rfl,rfl,rfl⟩
theorem p5 {A B C Dd E:Type} {a a':A} {b b':B} {c c':C} {d d':Dd} {e e':E} (h:(a,b,c,d,e)=(a',b',c',d',e')):a=a'/\b=b'/\c=c'/\d=d'/\e=e':=by cases h;exact ⟨rfl,rfl,rfl,rfl,rfl⟩
def gOK (ops:Array Oper) (e:Env):Option (Nat×Bool)->Bool
 | none=>true
 | some (j,w)=>match (ops[j]?).bind (·.dst) with
  | some d=>match e d with
   | .v (.bool b)=>b==w
   | _=>false
  | none=>false
def skipN (ops:Array Oper) (n:Nat):Nat->List Oper->Env->Option (List Oper×Env)
 | 0,l,e=>some (l,e)
 | k+1,[],e=>none
 | k+1,o::l,e=>match o.guard with
  | some (j,w)=>match (ops[j]?).bind (·.dst) with
   | some g=>match e g with
    | .v (.bool b)=>bif b==w then none else match o.dst with
     | some d=>bif Nat.blt d n then skipN ops n k l (set e d .undef) else none
     | none=>skipN ops n k l e
    | .undef=>match o.dst with
     | some d=>bif Nat.blt d n then skipN ops n k l (set e d .undef) else none
     | none=>skipN ops n k l e
    | _=>none
   | none=>none
  | none=>none
theorem EI {e:Env}:∀ {L:List (Nat×PV)},(L.map λp=>e p.1)=L.map (·.2)->Z4 e L
 | [],_=>trivial
 | (k,v)::L,h=>by
  have h1:=List.cons.inj h;exact ⟨h1.1,EI h1.2⟩
section
variable {X:Ctx} {n:Nat} {dr:Bool} {fn:FuncId} {ops:Array Oper} {base i:Nat} {l:List Oper} {e:Env} {G:Heap} {K:Env->Heap->Prop} {Q:Ex->Env->Heap->Prop} {c a b:Code}
variable {d:Nat} {t t1 t2:TypeId} {p:String} {af:Array Edge} {x y:Operand} {v:PV} {lo hi:Nat} {L:List Res} {g:Option (Nat×Bool)} {dst:Option Tmp} {op:Op}
theorem Ops.gd (hg:gOK ops e g=true) (hk:Ops X n dr ops base i (⟨dst,op,t,p,af,none⟩::l) e G K):Ops X n dr ops base i (⟨dst,op,t,p,af,g⟩::l) e G K:=by
 cases g with
 | none=>exact hk
 | some q=>
  obtain ⟨j,w⟩:=q;simp only [gOK] at hg
  split at hg
  ·rename_i d hd
   split at hg
   ·rename_i b hb;have:b=w:=by simpa using hg
    subst this;exact .wanted hd hb hk
   ·cases hg
  ·cases hg
theorem Ops.ps {l':List Oper} {e':Env}:∀ (k:Nat) {i:Nat} {l:List Oper} {e:Env},skipN ops n k l e=some (l',e')->Ops X n dr ops base (i+k) l' e' G K->Ops X n dr ops base i l e G K
 | 0,i,l,e,h,hk=>by cases h;exact hk
 | k+1,i,[],e,h,hk=>by cases h
 | k+1,i,⟨dst,op,t,p,af,none⟩::l,e,h,hk=>by cases h
 | k+1,i,⟨dst,op,t,p,af,some (j,w)⟩::l,e,h,hk=>by
  rw [show i+(k+1)=i+1+k by omega] at hk
  simp only [skipN] at h
  split at h
  ·rename_i g hg
   split at h
   ·rename_i b hb;cases hw:b==w with
    | true=>rw [hw] at h;cases h
    | false=>
     rw [hw] at h;have hb':e g = .v (.bool (!w)):=by rw [hb];cases b<;>cases w<;>first|rfl|cases hw
     simp only [cond_false] at h;cases dst with
     | some d=>
      cases hd:Nat.blt d n with
      | false=>simp [hd] at h
      | true=>simp only [hd,cond_true] at h;exact .pass hg hb' hd (Ops.ps k h hk)
     | none=>exact .pass0 hg hb' (Ops.ps k h hk)
   ·rename_i hb;cases dst with
    | some d=>
     cases hd:Nat.blt d n with
     | false=>simp [hd] at h
     | true=>simp only [hd,cond_true] at h;exact .passU hg hb hd (Ops.ps k h hk)
    | none=>exact .pass0U hg hb (Ops.ps k h hk)
   ·cases h
  ·cases h
theorem Ops.m1 (v:PV) (h1:Z0 X e x=some v) (h:(Nat.blt d n,gOK ops e g)=(true,true)) (hk:Ops X n dr ops base (i+1) l (set e d v) G K):Ops X n dr ops base i (⟨some d,.move x,t,p,af,g⟩::l) e G K :=
 .gd (p2 h).2 (.move h1 (p2 h).1 hk)
theorem Ops.a1 (v:PV) (h1:Z0 X e x=some v) (h:(Nat.blt d n,gOK ops e g)=(true,true)) (hk:Ops X n dr ops base (i+1) l (set e d v) G K):Ops X n dr ops base i (⟨some d,.assign x,t,p,af,g⟩::l) e G K :=
 .gd (p2 h).2 (.assign h1 (p2 h).1 hk)
theorem Ops.mV {u:FV} (h:(Z0 X e x,Nat.blt d n,gOK ops e g)=(some (.v u),true,true)) (hk:Ops X n dr ops base (i+1) l (set e d (.v u)) G K):Ops X n dr ops base i (⟨some d,.move x,t,p,af,g⟩::l) e G K:=.gd (p3 h).2.2 (.move (p3 h).1 (p3 h).2.1 hk)
theorem Ops.mP {u q r:Nat} (h:(Z0 X e x,Nat.blt d n,gOK ops e g)=(some (.ptr u q r),true,true)) (hk:Ops X n dr ops base (i+1) l (set e d (.ptr u q r)) G K):Ops X n dr ops base i (⟨some d,.move x,t,p,af,g⟩::l) e G K:=.gd (p3 h).2.2 (.move (p3 h).1 (p3 h).2.1 hk)
theorem Ops.mB {u q r:Nat} (h:(Z0 X e x,Nat.blt d n,gOK ops e g)=(some (.buf u q r),true,true)) (hk:Ops X n dr ops base (i+1) l (set e d (.buf u q r)) G K):Ops X n dr ops base i (⟨some d,.move x,t,p,af,g⟩::l) e G K:=.gd (p3 h).2.2 (.move (p3 h).1 (p3 h).2.1 hk)
theorem Ops.aV {u:FV} (h:(Z0 X e x,Nat.blt d n,gOK ops e g)=(some (.v u),true,true)) (hk:Ops X n dr ops base (i+1) l (set e d (.v u)) G K):Ops X n dr ops base i (⟨some d,.assign x,t,p,af,g⟩::l) e G K:=.gd (p3 h).2.2 (.assign (p3 h).1 (p3 h).2.1 hk)
theorem Ops.aB {u q r:Nat} (h:(Z0 X e x,Nat.blt d n,gOK ops e g)=(some (.buf u q r),true,true)) (hk:Ops X n dr ops base (i+1) l (set e d (.buf u q r)) G K):Ops X n dr ops base i (⟨some d,.assign x,t,p,af,g⟩::l) e G K:=.gd (p3 h).2.2 (.assign (p3 h).1 (p3 h).2.1 hk)
theorem Ops.tV {b:Bool} (h:(Z0 X e x,Nat.blt d n,gOK ops e g)=(some (.v (.bool b)),true,true)) (hk:Ops X n dr ops base (i+1) l (set e d (.v (.bool (!b)))) G K):Ops X n dr ops base i (⟨some d,.unOp .not t1 x,t,p,af,g⟩::l) e G K:=.gd (p3 h).2.2 (.not (p3 h).1 (p3 h).2.1 hk)
theorem Ops.iV {op:BinOp} {k:IntKind} {m m':Int} {r:FV} (h:(Z0 X e x,Z0 X e y,Z8t op k m m',Nat.blt d n,(op != .shl&&op != .shr)&&gOK ops e g)=(some (.v (.int k m)),some (.v (.int k m')),some r,true,true)) (hk:Ops X n dr ops base (i+1) l (set e d (.v r)) G K) :
  Ops X n dr ops base i (⟨some d,.binOp op t1 x y t2,t,p,af,g⟩::l) e G K:=by
 obtain ⟨h1,h2,h3,h4,h5⟩:=p5 h
 rw [Y8] at h5
 exact .gd h5.2 (.int h1 h2 h5.1 h3 h4 hk)
theorem Ops.xV {vs:List PV} {j:Nat} (h:(Z0 X e x,vs[j]?,Nat.blt d n,gOK ops e g)=(some (.tup vs),some v,true,true)) (hk:Ops X n dr ops base (i+1) l (set e d v) G K):Ops X n dr ops base i (⟨some d,.extract x j,t,p,af,g⟩::l) e G K:=by
 obtain ⟨h1,h2,h3,h4⟩:=p4 h
 exact .gd h4 (.extract h1 h2 h3 hk)
theorem Ops.kT {c:Operand} {u:FV} (h:(Z0 X e c,Z0 X e x,Nat.blt d n,gOK ops e g)=(some (.v (.bool true)),some (.v u),true,true)) (hk:Ops X n dr ops base (i+1) l (set e d (.v u)) G K):Ops X n dr ops base i (⟨some d,.pick c x y,t,p,af,g⟩::l) e G K:=by
 obtain ⟨h1,h2,h3,h4⟩:=p4 h
 exact .gd h4 (.pickT h1 h2 h3 hk)
theorem Ops.kF {c:Operand} {u:FV} (h:(Z0 X e c,Z0 X e y,Nat.blt d n,gOK ops e g)=(some (.v (.bool false)),some (.v u),true,true)) (hk:Ops X n dr ops base (i+1) l (set e d (.v u)) G K):Ops X n dr ops base i (⟨some d,.pick c x y,t,p,af,g⟩::l) e G K:=by
 obtain ⟨h1,h2,h3,h4⟩:=p4 h
 exact .gd h4 (.pickF h1 h2 h3 hk)
theorem Ops.bV {parts:Array (Nat×Operand)} (cs:List PV) (h:(ZBT X e t1 parts.toList,Nat.blt d n,gOK ops e g)=(some (.agg cs),true,true)) (hk:Ops X n dr ops base (i+1) l (set e d (.agg cs)) G K):Ops X n dr ops base i (⟨some d,.build t1 parts,t,p,af,g⟩::l) e G K :=
 .gd (p3 h).2.2 (.buildA (p3 h).1 (p3 h).2.1 hk)
theorem Ops.cV {f:FuncId} {args:Array Operand} {ts:Array TypeId} {ys:List PV} {r:PV} (hf:Fn X f ys r) (h:(ZZ X e args.toList,Nat.blt d n,gOK ops e g)=(some ys,true,true)) (hk:Ops X n dr ops base (i+1) l (set e d r) G K) :
  Ops X n dr ops base i (⟨some d,.call { callee:=.value (.func f),args:=args,argTypes:=ts },t,p,af,g⟩::l) e G K:=.gd (p3 h).2.2 (.call (p3 h).1 hf (p3 h).2.1 hk)
theorem Ops.nV {α:Type} {c:α->List FV} {xs:List α} {el:TypeId} (h:(Z0 X e x,tslice X.P t1,Nat.blt d n,gOK ops e g)=(some (.v (.sl (xs.map c))),some el,true,true))
  (hk':Ops X n dr ops base (i+1) l (set e d (.v (.int .i64 xs.length))) G K):Ops X n dr ops base i (⟨some d,.call { callee:=.builtin .len,args:=#[x],argTypes:=#[t1] },t,p,af,g⟩::l) e G K:=by
 obtain ⟨h1,h2,h3,h4⟩:=p4 h
 exact .gd h4 (.lenPt h1 h2 h3 hk')
theorem Ops.jV {α:Type} {c:α->List FV} {xs:List α} {iv:Int} {ik:IntKind} {u:α} {m:Nat} (hu:at? xs iv=some u) (h:(Z0 X e x,Z0 X e y,(tslice X.P t1).bind (tsize X.P),(c u).length,(tslice X.P t1).isSome&&Nat.blt d n&&gOK ops e g)=(some (.v (.sl (xs.map c))),some (.v (.int ik iv)),some m,m,true))
  (hk':Ops X n dr ops base (i+1) l (set e d (.fptr (c u))) G K):Ops X n dr ops base i (⟨some d,.indexAddr t1 x y,t,p,af,g⟩::l) e G K:=by
 obtain ⟨h1,h2,h3,h4,h5⟩:=p5 h
 simp only [Y8,Option.isSome_iff_exists] at h5
 obtain ⟨⟨⟨el,he⟩,h6⟩,h7⟩:=h5
 rw [he,Y0] at h3
 exact .gd h7 (.indexP h1 h2 hu he h3 h4 h6 hk')
theorem Ops.pV {u:FV} {cells:List FV} (h:(Z0 X e x,tagg X.P t1,cells[0]?,Nat.blt d n,gOK ops e g)=(some (.fptr cells),some false,some u,true,true))
  (hk':Ops X n dr ops base (i+1) l (set e d (.v u)) G K):Ops X n dr ops base i (⟨some d,.load t1 x,t,p,af,g⟩::l) e G K:=by
 obtain ⟨h1,h2,h3,h4,h5⟩:=p5 h
 exact .gd h5 (.loadP h1 h2 h3 h4 hk')
theorem Ops.qV {m:Nat} {cells:List FV} (cs:List FV) (h:(Z0 X e x,tsize X.P t1,cells.take m,(tagg X.P t1==some true)&&Nat.ble m cells.length&&Nat.blt d n,gOK ops e g)=(some (.fptr cells),some m,cs,true,true))
  (hk':Ops X n dr ops base (i+1) l (set e d (.agg (vs cs))) G K):Ops X n dr ops base i (⟨some d,.load t1 x,t,p,af,g⟩::l) e G K:=by
 obtain ⟨h1,h2,h3,h4,h5⟩:=p5 h
 simp only [Y8,beq_iff_eq] at h4
 exact .gd h5 (.loadPA h1 h4.1.1 h2 h4.1.2 h3 h4.2 hk')
theorem Ops.fV {id ver off f fo:Nat} {ft:TypeId} {m:Nat} {te:TypeId} {cells:List PV} (H:Has G lo hi L) (k:Nat) (h:(Z0 X e x,L[k]?,tfield X.P t1 f,tsize X.P ft,Nat.beq cells.length ver&&Nat.blt d n&&gOK ops e g)=(some (.ptr id ver off),some (.blk id te cells),some (fo,ft),some (m+1),true))
  (hk':Ops X n false ops base (i+1) l (set e d (.ptr id ver (off+fo))) G K):Ops X n false ops base i (⟨some d,.fieldAddr t1 x f,t,p,af,g⟩::l) e G K:=by
 obtain ⟨h1,h2,h3,h4,h5⟩:=p5 h
 simp only [Y8] at h5
 exact .gd h5.2 (.Z1 H k h2 (Y0S h5.1.1) h1 h3 h4 nofun h5.1.2 hk')
theorem Ops.lV {id ver off:Nat} {te:TypeId} {cells:List PV} (H:Has G lo hi L) (k:Nat) (h:(Z0 X e x,L[k]?,tagg X.P t1,cells[off]?,Nat.beq cells.length ver&&Nat.blt d n&&gOK ops e g)=(some (.ptr id ver off),some (.blk id te cells),some false,some v,true))
  (hk':Ops X n false ops base (i+1) l (set e d v) G K):Ops X n false ops base i (⟨some d,.load t1 x,t,p,af,g⟩::l) e G K:=by
 obtain ⟨h1,h2,h3,h4,h5⟩:=p5 h
 simp only [Y8] at h5
 exact .gd h5.2 (.loadH H k h2 (Y0S h5.1.1) h1 h3 h4 nofun h5.1.2 hk')
theorem Ops.LV {id ver off m:Nat} {te:TypeId} {cells:List PV} (cs:List PV) (H:Has G lo hi L) (k:Nat) (h:(Z0 X e x,L[k]?,tsize X.P t1,(cells.drop off).take m,(tagg X.P t1==some true)&&Nat.ble (off+m) cells.length&&Nat.beq cells.length ver&&Nat.blt d n&&gOK ops e g)=(some (.ptr id ver off),some (.blk id te cells),some m,cs,true))
  (hk':Ops X n false ops base (i+1) l (set e d (.agg cs)) G K):Ops X n false ops base i (⟨some d,.load t1 x,t,p,af,g⟩::l) e G K:=by
 obtain ⟨h1,h2,h3,h4,h5⟩:=p5 h
 simp only [Y8,beq_iff_eq] at h5
 exact .gd h5.2 (.Z4N H k h2 (Y0S h5.1.1.2) h1 h5.1.1.1.1 h3 h5.1.1.1.2 h4 nofun h5.1.2 hk')
theorem Ops.sV {id ver off:Nat} {te:TypeId} {cells ys:List PV} (cells':List PV) (H:Has G lo hi L) (k:Nat) (h:(Z0 X e x,L[k]?,(Z0 X e y).bind PV.cells,splice cells off ys,(tsize X.P t1==some ys.length)&&Nat.ble (off+ys.length) cells.length&&Nat.beq cells.length ver&&gOK ops e g)=(some (.ptr id ver off),some (.blk id te cells),some ys,cells',true))
  (hk':∀ G',Has G' lo hi (L.set k (.blk id te cells'))->Ops X n false ops base (i+1) l e G' K):Ops X n false ops base i (⟨none,.store t1 x y,t,p,af,g⟩::l) e G K:=by
 obtain ⟨h1,h2,h3,h4,h5⟩:=p5 h
 simp only [Y8,beq_iff_eq] at h5
 rw [Y4] at h3
 obtain ⟨v,h6,h7⟩:=h3
 exact .gd h5.2 (.Z2p H k h2 (Y0S h5.1.2) h1 h6 h7 h5.1.1.1 rfl h5.1.1.2 h4 nofun hk')
theorem Ops.md {L0:List Res} (H:Has G lo hi L0) (k:Nat) (E:List (Nat×PV)) (L:List Res) (hk:Nat.ble k l.length=true) (h1:Ops X n dr ops base i (l.take k) e G λe G=>Z4 e E/\Has G (base+(i+k)) hi L) (h2:∀ e G,Has G (base+(i+k)) hi L->Ops X n dr ops base (i+k) (l.drop k) (sets e E) G K):Ops X n dr ops base i l e G K :=
 .mid k hk h1 λe G ⟨he,H⟩=>by rw [he.eq];exact h2 e G H
theorem Runs.wh {α:Type} {c:Bool} {A B z:α} {t:Operand} (h:(bif c then A else B)=z) (ht:Z0 X e t=some (.v (.bool c))) (h1:A=z->Runs X n fn a e G Q) (h2:B=z->Runs X n fn b e G Q):Runs X n fn (.cond t a b) e G Q :=
 .whether ht (λhc=>h1 (cond_T hc h)) λhc=>h2 (cond_F hc h)
theorem Ops.sp {α:Type} {j gt:Nat} {w v:Bool} {A B z:α} (hb:(bif v then A else B)=z) (h:((ops[j]?).bind (·.dst),e gt)=(some gt,.v (.bool v))) (ht:A=z->Ops X n dr ops base i (⟨dst,op,t,p,af,some (j,w)⟩::l) (set e gt (.v (.bool true))) G K)
  (hf:B=z->Ops X n dr ops base i (⟨dst,op,t,p,af,some (j,w)⟩::l) (set e gt (.v (.bool false))) G K):Ops X n dr ops base i (⟨dst,op,t,p,af,some (j,w)⟩::l) e G K :=
 .split (p2 h).1 (p2 h).2 (λhc=>ht (cond_T hc hb)) λhc=>hf (cond_F hc hb)
theorem Runs.lp {S R β:Type} {step:S->Option (S⊕R)} {s:S} {Gg:R->Option β} {z:β} (h:(Dn.loopO step s).bind Gg=some z) (E:S->List (Nat×PV)) (L:S->List Res) (ex:Ex) (E':R->List (Nat×PV)) (L':R->List Res) (h0:Z4 e (E s)) (H:Hs G (L s))
  (hs:∀ s e G,Hs G (L s)->∀ z,step s=some z->Runs X n fn c (sets e (E s)) G (LoopEnd (λs e G=>Z4 e (E s)/\Hs G (L s)) (λy x e G=>x=ex/\Z4 e (E' y)/\Hs G (L' y)) z))
  (hq:∀ y e G,Hs G (L' y)->Gg y=some z->Q ex (sets e (E' y)) G):Runs X n fn (.loop c) e G Q:=by
 obtain ⟨y,h1,h2⟩:=bind_some h
 obtain ⟨k,h1⟩:=ZG.1 h1
 refine (Runs.loopO h1 (λs e G=>Z4 e (E s)/\Hs G (L s)) (λy x e G=>x=ex/\Z4 e (E' y)/\Hs G (L' y)) ⟨h0,H⟩ ?_).mono ?_
 ·rintro s e G ⟨he,H⟩ z hz;rw [he.eq];exact hs s e G H z hz
 ·rintro x e G ⟨rfl,he,H⟩;rw [he.eq];exact hq y e G H h2
theorem Runs.jn {A B:Type} {o:Option A} {Gg:A->Option B} {z:B} (h:o.bind Gg=some z) (ex:Ex) (E:A->List (Nat×PV)) (L:A->List Res)
  (h1:∀ y,o=some y->Runs X n fn c e G λx e G=>x=ex/\Z4 e (E y)/\Hs G (L y)) (h2:∀ y e G,Hs G (L y)->Gg y=some z->Q ex (sets e (E y)) G):Runs X n fn c e G Q:=by
 obtain ⟨y,h3,h4⟩:=bind_some h
 refine (h1 y h3).mono ?_
 rintro x e G ⟨rfl,he,H⟩
 rw [he.eq]
 exact h2 y e G H h4
theorem Runs.tR {id:Nat} {os:List Oper} (m:Nat) (hm:os.length=m) (H:Hs G L) (h:∀ base G',Has G' base (base+m) L->Ops X n false os.toArray base 0 os e G' λe G=>Runs X n fn b e G Q):Runs X n fn (.seq (.region id os.toArray false) b) e G Q :=
 .then (.Z5 m hm H h)
theorem bs {α β:Type} {x:Option α} {f:α->Option β} {b:β} (h:x.bind f=some b):∃ a,x=some a/\f a=some b:=Option.bind_eq_some_iff.1 h
theorem Ops.alc {cs:List PV} (H:Has G lo hi L) (hz:tzero X.P t1=some cs) (hd:Nat.blt d n=true)
  (hk:∀ G',Has G' (base+i+1) hi (.blk (base+i) t1 cs::L)->Ops X n dr ops base (i+1) l (set e d (.ptr (base+i) cs.length 0)) G' K) (hlo:lo<=base+i:=by omega) (hhi:base+i<hi:=by omega) :
  Ops X n dr ops base i (⟨some d,.alloc t1,t,p,af,none⟩::l) e G K:=.allocH H hlo hhi hz hd hk
theorem Ops.bxc {cs:List PV} (H:Has G lo hi L) (hx:Z0 X e x=some v) (hc:v.cells=some cs) (hd:Nat.blt d n=true)
  (hk:∀ G',Has G' (base+i+1) hi (.blk (base+i) t1 cs::L)->Ops X n dr ops base (i+1) l (set e d (.ptr (base+i) cs.length 0)) G' K) (hlo:lo<=base+i:=by omega) (hhi:base+i<hi:=by omega) :
  Ops X n dr ops base i (⟨some d,.box t1 x,t,p,af,none⟩::l) e G K:=.boxH H hlo hhi hx hc hd hk
theorem so {ops:Array Oper} {base i id:Nat} {dr:Bool} (h:id<base) (h2:Z7S (Region.before ops) ops i=true:=by kernel_rfl):dr=true->Seen ops base i id false:=λ_=>.inl ⟨h,nofun,λ_=>h2⟩
theorem Ends.eR {rs:List ResultVar} {xs:List PV} {r:PV} (h:(Z0T X.P e G rs,Z7c (Z28 xs),Z28 xs)=(some xs,true,r)):Ends X rs r .ret e G:=.ret (p3 h).1 (p3 h).2.1 (p3 h).2.2
theorem Fn.go {f:FuncId} {args:List PV} {r:PV} {fu:Func} {c:Code} (hf:X.P.funcs[f]? = some fu) (h:(fu.body,X.intr f args,X.keep f,X.opn f,args.all PV.pure)=(some c,none,false,false,true))
  (hr:∀ G,Hs G []->Runs X (max fu.ntmps args.length) f c (Z6p args) G (Ends X fu.results.toList r)):Fn X f args r:=by
 obtain ⟨h1,h2,h3,h4,h5⟩:=p5 h
 exact .ends hf h1 h2 h3 h4 h5 rfl (hr _ (Has.nil (YB _)))
end
end Go.Dn

namespace Go.Dn
open Go
def famL {α:Type} (rt:TypeId) (sz:Nat) (c:α->List FV):List PV->List (List α)->List Res
 | v::ids,r::x=>.sl v rt sz (r.map c) true::famL rt sz c ids x
 | _,_=>[]
section
variable {α:Type} {rt:TypeId} {sz:Nat} {c:α->List FV}
theorem famL_len:∀ {ids:List PV} {x:List (List α)},ids.length=x.length->(famL rt sz c ids x).length=x.length
 | [],[],_=>rfl
 | v::ids,r::x,h=>by simp only [famL,Ye];rw [famL_len (by simpa using h)]
 | [],_::_,h=>by simp at h
 | _::_,[],h=>by simp at h
theorem famL_get:∀ {ids:List PV} {x:List (List α)},ids.length=x.length->∀ {m:Nat} {r:List α},x[m]? = some r->∃ v,ids[m]? = some v/\(famL rt sz c ids x)[m]? = some (.sl v rt sz (r.map c) true)
 | [],[],_,m,r,h=>by simp at h
 | v::ids,r0::x,hl,0,r,h=>by simp at h;subst h;exact ⟨v,rfl,rfl⟩
 | v::ids,r0::x,hl,m+1,r,h=>famL_get (ids:=ids) (x:=x) (by simpa using hl) (m:=m) (r:=r) (by simpa using h)
 | [],_::_,h,_,_,_=>by simp at h
 | _::_,[],h,_,_,_=>by simp at h
theorem famL_set:∀ {ids:List PV} {x:List (List α)} {m:Nat} {v:PV} {r:List α},ids[m]? = some v->(famL rt sz c ids x).set m (.sl v rt sz (r.map c) true)=famL rt sz c ids (x.set m r)
 | [],x,m,v,r,h=>by simp at h
 | v0::ids,[],m,v,r,h=>by simp [famL]
 | v0::ids,r0::x,0,v,r,h=>by simp at h;subst h;rfl
 | v0::ids,r0::x,m+1,v,r,h=>by simp only [famL,List.set_cons_succ];rw [famL_set (by simpa using h)]
theorem famL_put:∀ {ids:List PV} {x:List (List α)},ids.length=x.length->∀ {m:Nat} {v:PV} {r:List α},(famL rt sz c ids x).set m (.sl v rt sz (r.map c) true)=famL rt sz c (ids.set m v) (x.set m r)
 | [],[],_,m,v,r=>by simp [famL]
 | v0::ids,r0::x,hl,0,v,r=>rfl
 | v0::ids,r0::x,hl,m+1,v,r=>by simp only [famL,List.set_cons_succ];rw [famL_put (by simpa using hl)]
 | [],_::_,h,_,_,_=>by simp at h
 | _::_,[],h,_,_,_=>by simp at h
theorem ZBM:∀ {ids:List PV} {x:List (List α)},ids.length=x.length->∀ {v:PV} {r:List α},famL rt sz c (ids++[v]) (x++[r])=famL rt sz c ids x++[.sl v rt sz (r.map c) true]
 | [],[],_,v,r=>rfl
 | v0::ids,r0::x,hl,v,r=>by simp only [Y0F,famL];rw [ZBM (by simpa using hl)]
 | [],_::_,h,_,_=>by simp at h
 | _::_,[],h,_,_=>by simp at h
theorem Z3a {ids:List PV} {x:List (List α)} (hM:ids.length=x.length) {iv:Int} {r:List α} (h:at? x iv=some r):∃ v,ids[iv.toNat]? = some v/\(famL rt sz c ids x)[iv.toNat]? = some (.sl v rt sz (r.map c) true):=famL_get hM (at?_some h).2
theorem at?_nn {x:List α} {iv:Int} {r:α} (h:at? x iv=some r):0<=iv:=(at?_some h).1
theorem Z2M {β:Type} {l:List β} {m:Nat} {a:β} (h:l[m]? = some a):m<l.length:=(List.getElem?_eq_some_iff.1 h).1
end
theorem Z0P {L F T:List Res} (k:Nat) (hL:L.drop k=F++T) {m:Nat} {r:Res} (h:F[m]? = some r):L[k+m]? = some r:=by
 have e:(L.drop k)[m]? = some r:=by rw [hL,YW (Z2M h),h]
 rw [Yp] at e
 exact e
section
variable {G:Heap} {lo hi:Nat} {L T:List Res}
theorem Has.famSet {α:Type} {rt:TypeId} {sz:Nat} {c:α->List FV} {ids:List PV} {x:List (List α)} {v:PV} {r:List α} {k m:Nat} (hL:L.drop k=famL rt sz c ids x++T) (hM:ids.length=x.length) (hv:ids[m]? = some v)
  (H:Has G lo hi (L.set (k+m) (.sl v rt sz (r.map c) true))):Has G lo hi (L.take k++(famL rt sz c ids (x.set m r)++T)):=by
 have hlt:m<(famL rt sz c ids x).length:=by rw [famL_len hM,<- hM];exact Z2M hv
 have e:L.set (k+m) (.sl v rt sz (r.map c) true)=L.take k++(famL rt sz c ids (x.set m r)++T):=by
  rw [<- famL_set hv]
  conv=>lhs;rw [<- Y04 k L]
  have hk:(L.take k).length=k:=by
   rw [YN];have:(L.drop k).length≠0:=by rw [hL];simp only [YR];omega
   simp only [Y0A] at this;omega
  rw [Y0b _ _ (by omega),hk,Yr,hL,List.set_append_left _ _ hlt]
 rw [<- e];exact H
theorem Has.nilFam {α:Type} {rt:TypeId} {sz:Nat} {c:α->List FV} (A:List Res) (H:Has G lo hi (A++T)):∀ k:Nat,Has G lo hi (A++(famL rt sz c (List.replicate k PV.nils) (List.replicate k [])++T))
 | 0=>H
 | k+1=>by
  have h:=(Has.nilFam (c:=c) (rt:=rt) (sz:=sz) A H k).pushNil rt sz true;exact h.perm List.perm_middle.symm
theorem Has.moveIn {r:Res} (H:Has G lo hi (r::L)) {p:Nat} (hp:p<L.length):Has G lo hi (L.set p r):=by
 have h1:=H.erase (p+1)
 rw [List.eraseIdx_cons_succ] at h1
 refine h1.perm ?_
 rw [Y0G,if_pos hp,Y0h]
 exact List.perm_middle.symm
end
theorem Has.rowPut {G:Heap} {lo hi:Nat} {L T:List Res} {α:Type} {rt:TypeId} {sz:Nat} {c:α->List FV} {ids:List PV} {x:List (List α)} {w:PV} {r:List α} {k m:Nat} (hL:L.drop k=famL rt sz c ids x++T) (hM:ids.length=x.length) (hm:m<ids.length)
  (H:Has G lo hi (.sl w rt sz (r.map c) true::L)):Has G lo hi (L.take k++(famL rt sz c (ids.set m w) (x.set m r)++T)):=by
 have hlt:m<(famL rt sz c ids x).length:=by rw [famL_len hM,<- hM];exact hm
 have hkl:k+m<L.length:=by
  have:m<(L.drop k).length:=by rw [hL,YR];omega
  rw [Y0A] at this;omega
 have e:L.set (k+m) (.sl w rt sz (r.map c) true)=L.take k++(famL rt sz c (ids.set m w) (x.set m r)++T):=by
  rw [<- famL_put hM]
  conv=>lhs;rw [<- Y04 k L]
  have hk:(L.take k).length=k:=by rw [YN];omega
  rw [Y0b _ _ (by omega),hk,Yr,hL,List.set_append_left _ _ hlt]
 rw [<- e];exact H.moveIn hkl
theorem ZD6 {cells:List PV} {j:Nat} {w:PV} (h:j<cells.length):splice cells j [w]=cells.set j w:=by
 unfold splice
 rw [Y0G,if_pos h];simp
theorem new?_some {α:Type} {b:Nat} {n:Int} {z:α} {r:List α} (h:new? b n z=some r):0<=n/\n.toNat*b<=room/\r=List.replicate n.toNat z:=by
 unfold new? at h
 split at h
 ·rename_i hn;cases h;exact ⟨hn.1,hn.2,rfl⟩
 ·cases h
theorem Has.toMat {G:Heap} {lo hi:Nat} {T:List Res} {α:Type} {c:α->List FV} {d:List (List α)} {et:TypeId} {w:PV} {u:Unit} (hd:some? d=some u) (H:Has G lo hi (.sl w et 1 (d.map (cL c)) true::T)):∃ id,w = .buf id d.length 1/\Has G lo hi (.blk id et (d.map λr=>PV.v (.sl (r.map c)))::T):=by
 obtain ⟨hs,hv⟩:=H.sl (k:=0) rfl
 rcases hv with ⟨_,h⟩|⟨id,rfl,hb⟩
 ·cases d with
  | nil=>cases hd
  | cons a d=>simp at h
 ·refine ⟨id,by rw [YJ],H.say (k:=0) (r':=.blk id et _) rfl ?_ rfl⟩
  show G.ent id=_;rw [hb]
  congr 1
  clear hb hs H hd
  induction d with
  | nil=>rfl
  | cons a d ih=>simp only [Y0H,Yo,Z4T,ih];rfl
theorem Has.ownRow {G:Heap} {lo hi:Nat} {T:List Res} {α:Type} {c:α->List FV} {r:List (List α)} {et rt:TypeId} {sz id k:Nat} {ids:List PV} {w:PV} (hk:ids.length=k) (hlt:k<r.length)
  (H:Has G lo hi (.sl w rt sz (r[k].map c) true :: .blk id et ((ids++(r.drop k).map λq=>PV.v (.sl (q.map c))).set ((k:Int)).toNat w)::(famL rt sz c ids (r.take k)++T))) :
  Has G lo hi (.blk id et ((ids++[w])++(r.drop (k+1)).map λq=>PV.v (.sl (q.map c)))::(famL rt sz c (ids++[w]) (r.take (k+1))++T)):=by
 have hl:ids.length=(r.take k).length:=by rw [YN];omega
 have e1:(ids++(r.drop k).map λq=>PV.v (.sl (q.map c))).set ((k:Int)).toNat w=(ids++[w])++(r.drop (k+1)).map λq=>PV.v (.sl (q.map c)):=by
  rw [YH,Y0b _ _ (by omega),hk,Y13,Y0Q hlt,Y0H,List.set_cons_zero,Yu];rfl
 have e2:famL rt sz c (ids++[w]) (r.take (k+1))=famL rt sz c ids (r.take k)++[.sl w rt sz (r[k].map c) true]:=by
  rw [<- ZBM hl,Yd hlt]
 have e3:famL rt sz c ids (r.take k)++[Res.sl w rt sz (r[k].map c) true]++T=famL rt sz c ids (r.take k)++(Res.sl w rt sz (r[k].map c) true::T):=by simp
 rw [e1] at H
 rw [e2,e3]
 refine H.perm ?_
 refine (List.Perm.swap _ _ _).trans (List.Perm.cons _ ?_)
 exact List.perm_middle.symm
theorem Has.matLast {G:Heap} {lo hi:Nat} {M:List Res} (A:List Res) (H:Has G lo hi (M++A)):Has G lo hi (A++(M++[])):=by
 rw [YK];exact H.perm Y0t
theorem wrap_small {x:Int} (h1 : -9223372036854775808<=x) (h2:x<=9223372036854775807):IntKind.i64.wrap x=x:=by
 simp [IntKind.wrap,IntKind.bits,IntKind.signed]
 split<;>omega
section
variable {X:Ctx} {n:Nat} {dr:Bool} {fn:FuncId} {ops:Array Oper} {base i:Nat} {l:List Oper} {e:Env} {G:Heap} {K:Env->Heap->Prop} {Q:Ex->Env->Heap->Prop}
variable {d:Nat} {t t1 t2:TypeId} {p:String} {af:Array Edge} {x y z:Operand} {v:PV} {lo hi:Nat} {L:List Res}
theorem Ops.Z3J {id m:Nat} {el te:TypeId} {cells:List PV} {ik:IntKind} {iv:Int} (H:Has G lo hi L) (k:Nat) (hk:L[k]? = some (.blk id te cells)) (hv:cells.length=m) (hx:Z0 X e x=some (.buf id m 1))
  (hy:Z0 X e y=some (.v (.int ik iv))) (h0:0<=iv) (hlt:iv.toNat<m) (ht:tslice X.P t1=some el) (hs:tsize X.P el=some 1) (ha:dr=true->Seen ops base i id false) (hd:Nat.blt d n=true)
  (hk':Ops X n dr ops base (i+1) l (set e d (.ptr id m iv.toNat)) G K):Ops X n dr ops base i (⟨some d,.indexAddr t1 x y,t,p,af,none⟩::l) e G K:=by
 refine .plain (x:=.ptr id m iv.toNat) (G1:=G) ?_ (λh=>Z2L (ids:=[id]) rfl ?_ (λj hj=>by simp at hj;subst hj;exact ha h)) hd hk'
 ·have hc:G.cur id m=true:=H.cur hk hv;simp only [Z7,hx,hy,Z1Q,Z4r,if_pos h0,ht,Nat.mul_one,hc,hs,Y0q,beq_self_eq_true,decide_eq_true hlt,Y09,if_true,YA]
 ·simp only [touched,Zg,YF,YO,hx,vids,YK]
theorem Ops.lenM {id m:Nat} {el te:TypeId} {cells:List PV} (H:Has G lo hi L) (k:Nat) (hk:L[k]? = some (.blk id te cells)) (hv:cells.length=m) (hx:Z0 X e x=some (.buf id m 1)) (ht:tslice X.P t1=some el)
  (ha:dr=true->Seen ops base i id false) (hd:Nat.blt d n=true)
  (hk':Ops X n dr ops base (i+1) l (set e d (.v (.int .i64 m))) G K):Ops X n dr ops base i (⟨some d,.call { callee:=.builtin .len,args:=#[x],argTypes:=#[t1] },t,p,af,none⟩::l) e G K:=by
 refine .plain (x:=.v (.int .i64 m)) (G1:=G) ?_ (λh=>Z2L (ids:=[id]) rfl ?_ (λj hj=>by simp at hj;subst hj;exact ha h)) hd hk'
 ·have hc:G.cur id (m*1)=true:=H.cur hk (by omega)
  simp only [Z7,Zp,ZZ,hx,Y0,Z0N,lenD,ht,hc,if_true,YA]
 ·simp only [touched,Zg,YF,YO,hx,vids,YK]
theorem Ops.makeM {el:TypeId} {by_:Nat} {m:Int} (H:Has G lo hi L) (hlo:lo<=base+i) (hhi:base+i<hi)
  (hx:Z0 X e x=some (.v (.int .i64 m))) (hy:Z0 X e y=some (.v (.int .i64 m))) (h0:0<=m) (hroom:m.toNat*by_<=room)
  (ht:tslice X.P t1=some el) (hs:tsize X.P el=some 1) (hb:tbytes X.P el=some by_) (hz:tzero X.P el=some [.nils]) (hby:(by_ != 0)=true) (hd:Nat.blt d n=true)
  (hk:∀ G',Has G' (base+i+1) hi (.blk (base+i) el (List.replicate m.toNat .nils)::L)->Ops X n dr ops base (i+1) l (set e d (.buf (base+i) m.toNat 1)) G' K) :
  Ops X n dr ops base i (⟨some d,.makeSlice t1 x y,t,p,af,none⟩::l) e G K:=by
 have hby:by_≠0:=by simpa using hby
 have e2:(List.replicate m.toNat [PV.nils]).flatten=List.replicate m.toNat .nils:=by
  induction m.toNat with
  | zero=>rfl
  | succ k ih=>rw [List.replicate_succ,Yo,ih,List.replicate_succ];rfl
 refine .plain (x:=.buf (base+i) m.toNat 1) (G1:=G.put (base+i) (.blk el (List.replicate m.toNat .nils) true)) ?_ (λ_=>Z1G rfl) hd (hk _ (H.push hlo hhi (r':=.blk (base+i) el _) Z1O rfl))
 simp only [Z7,hx,hy,makeD,ht,hs,hb,hz]
 rw [if_pos ⟨trivial,h0,hroom,rfl,by decide,hby⟩,e2]
theorem Ops.isNilV {α:Type} {c:α->List FV} {xs:List α} {u:Unit} {el:TypeId} (h:some? xs=some u) (hx:Z0 X e x=some (.v (.sl (xs.map c)))) (hy:Z0 X e y=some .nils) (ht:tslice X.P t1=some el) (hd:Nat.blt d n=true)
  (hk':Ops X n dr ops base (i+1) l (set e d (.v (.bool false))) G K):Ops X n dr ops base i (⟨some d,.binOp .eql t1 x y t2,t,p,af,none⟩::l) e G K:=by
 cases xs with
 | nil=>cases h
 | cons a xs=>
  refine .plain (x:=.v (.bool false)) (G1:=G) ?_ (λ_=>Z4b rfl ?_) hd hk'
  ·simp only [Z7,hx,hy,Y0H,binD,ht,Z8f,YA]
  ·simp only [touched,Zg,YF,YO,hx,hy,vids,YK]
theorem cutA {n:Int} {m:Nat} {u:Unit} (h:winA n m=some u):0<=n/\n.toNat<m:=by
 unfold winA at h
 split at h
 ·assumption
 ·cases h
theorem cutB {n:Int} {m:Nat} {u:Unit} (h:winB n m=some u):0<n/\n.toNat<=m:=by
 unfold winB at h
 split at h
 ·assumption
 ·cases h
theorem win_le {n:Int} {m:Nat} {u:Unit} (h:winB n m=some u):n.toNat<=m:=(cutB h).2
theorem Ops.viewA {id m sz:Nat} {el:TypeId} {k1:IntKind} {j:Int} (hx:Z0 X e x=some (.buf id m sz)) (hl:Z0 X e y=some (.v (.int k1 j))) (h0:0<=j) (hlt:j.toNat<m) (ht:tslice X.P t1=some el) (hs:tsize X.P el=some sz)
  (hv:X.view (.slice t1 x (some y) none none)=true) (hd:Nat.blt d n=true)
  (hk':Ops X n dr ops base (i+1) l (set e d (.view id m j.toNat (m-j.toNat) sz)) G K):Ops X n dr ops base i (⟨some d,.slice t1 x (some y) none none,t,p,af,none⟩::l) e G K:=by
 refine .plain (x:=.view id m j.toNat (m-j.toNat) sz) (G1:=G) ?_ (λh=>?_) hd hk'
 ·simp only [Z7,hx,hl,optD,YA,hv,if_true,viewD,ht,Y0,hs,Z4r,if_pos h0];rw [if_pos ⟨trivial,hlt,YB _⟩];rfl
 ·exact ask0 (by simp only [Zu,Z0O,hx,hv])
theorem Ops.viewB {id m sz:Nat} {el:TypeId} {k1:IntKind} {j:Int} (hx:Z0 X e x=some (.buf id m sz)) (hl:Z0 X e y=some (.v (.int k1 j))) (h0:0<j) (hlt:j.toNat<=m) (ht:tslice X.P t1=some el) (hs:tsize X.P el=some sz)
  (hv:X.view (.slice t1 x none (some y) none)=true) (hd:Nat.blt d n=true)
  (hk':Ops X n dr ops base (i+1) l (set e d (.view id m 0 j.toNat sz)) G K):Ops X n dr ops base i (⟨some d,.slice t1 x none (some y) none,t,p,af,none⟩::l) e G K:=by
 refine .plain (x:=.view id m 0 j.toNat sz) (G1:=G) ?_ (λh=>?_) hd hk'
 ·simp only [Z7,hx,hl,optD,YA,hv,if_true,viewD,ht,Y0,hs,Z4r,if_pos (show (0:Int)<=j by omega)]
  rw [if_pos ⟨trivial,by omega,hlt⟩];rfl
 ·exact ask0 (by simp only [Zu,Z0O,hx,hv])
theorem Ops.copyW {α:Type} {c:α->List FV} {xs:List α} {el t9:TypeId} {sz id a m:Nat} (H:Has G lo hi L) (k:Nat) (hk:L[k]? = some (.sl (.buf id m sz) el sz (xs.map c) true))
  (hx:Z0 X e x=some (.view id m a (m-a) sz)) (hy:Z0 X e y=some (.view id m 0 a sz)) (ha1:a<=m) (ht:tslice X.P t1=some el) (hs:tsize X.P el=some sz)
  (ha:dr=true->Seen ops base i id true) (hd:Nat.blt d n=true)
  (hk':∀ G',Has G' lo hi (L.set k (.sl (.buf id m sz) el sz ((dbl xs a).map c) true))->Ops X n dr ops base (i+1) l (set e d (.v (.int .i64 (min a (m-a):Nat)))) G' K) :
  Ops X n dr ops base i (⟨some d,.call { callee:=.builtin .copy,args:=#[x,y],argTypes:=#[t1,t9] },t,p,af,none⟩::l) e G K:=by
 obtain ⟨hsz,hv'⟩:=H.sl hk
 rcases hv' with ⟨h,_⟩|⟨id',hid,hbl⟩
 ·cases h
 cases hid
 have hL:(xs.map c).length=xs.length:=YJ _
 rw [hL] at hx hy ha1 hk hk'
 have hl2:(vs (xs.map c).flatten).length=xs.length*sz:=by rw [Z0d,Z0G hsz,hL]
 have htk:((vs (xs.map c).flatten).drop (0*sz)).take (a*sz)=vs (((xs.take a).map c).flatten):=by
  rw [Nat.zero_mul,List.drop_zero,Z9R,Z7U hsz,Y0p]
 have hta:∀ y∈(xs.take a).map c,y.length=sz:=λy hy=>hsz y (by rw [Y0p] at hy;exact YX hy)
 have hm1:((xs.take a).map c).length=a:=by rw [YJ,YN];omega
 have hcp:splice (vs (xs.map c).flatten) (a*sz) ((vs (((xs.take a).map c).flatten)).take (min a (xs.length-a)*sz))=vs ((dbl xs a).map c).flatten:=by
  rw [Z9R,Z7U hta];unfold splice;rw [Z9R,Z7U hsz,Z0d,vs_drop,Z0G (sz:=sz) (λy hy=>hta y (YX hy)),<- Yz,ZAO hsz,<- Z4T,<- Z4T,<- Y0O,<- Y0O]
  congr 2
  unfold dbl;simp only [Ys,Y0p,List.map_drop,YN,YJ]
  congr 1
  ·congr 1
   rw [List.take_take,List.take_take]
   congr 1
   omega
  ·congr 2
   omega
 refine .plain (x:=.v (.int .i64 (min a (xs.length-a):Nat))) (G1:=G.put id (.blk el (vs ((dbl xs a).map c).flatten) true)) ?_ (λh=>Z6M (ids:=[id,id]) rfl ?_ (λj hj=>by simp at hj;subst hj;exact ha h)) hd
  (hk' _ (H.put hk rfl (r':=.sl (.buf id xs.length sz) el sz ((dbl xs a).map c) true) ⟨λy hy=>?_,.inr ⟨id,?_,Z1O⟩⟩ rfl))
 ·simp only [Z7,Zp,ZZ,hx,hy,Y0,Z0N,Z8S,ht,hs,Z3c,hbl];rw [if_pos ⟨trivial,by rw [hl2],by omega⟩,htk]
  simp only [hbl];rw [if_pos ⟨trivial,trivial,hl2,by omega⟩,hcp]
 ·simp only [touched,Zg,YF,YO,hx,hy,vids,YK,Y0F,Y0o]
 ·obtain ⟨a',ha',rfl⟩:=List.mem_map.1 hy;have:a'∈xs:=by
   unfold dbl at ha';rcases List.mem_append.1 ha' with h|h
   ·rcases List.mem_append.1 h with h|h
    ·exact YX h
    ·exact YX (YX h)
   ·exact List.mem_of_mem_drop h
  exact hsz _ (List.mem_map.2 ⟨a',this,rfl⟩)
 ·have:((dbl xs a).map c).length=xs.length:=by
   unfold dbl;simp only [YJ,YR,YN,Y0A];omega
  rw [this]
end
theorem fam_exp {α:Type} {rt:TypeId} {sz d:Nat} {c:α->List FV}:∀ {ids:List PV} {x:List (List α)} {G:Heap} {lo hi:Nat} {A T:List Res},ids.length=x.length->Has G lo hi (A++(famL rt sz c ids x++T)) ->
  ∃ G',Z0J (Z08 (d+2)) G ids=some (x.map (λr=>FV.sl (r.map c)),G')
 | [],[],G,lo,hi,A,T,_,H=>⟨G,rfl⟩
 | v::ids,r::x,G,lo,hi,A,T,hl,H=>by
  have hk:(A++(famL rt sz c (v::ids) (r::x)++T))[A.length]? = some (.sl v rt sz (r.map c) true):=by
   rw [Yc (YB _),Y13];rfl
  obtain ⟨hs,hv⟩:=H.sl hk;obtain ⟨G1,h1,H1⟩ : ∃ G1,Z08 (d+2) G v=some (.sl (r.map c),G1)/\∃ lo hi,Has G1 lo hi ((A++[.sl v rt sz (r.map c) false])++(famL rt sz c ids x++T)):=by
   have e:∀ rr,(A++(famL rt sz c (v::ids) (r::x)++T)).set A.length rr=(A++[rr])++(famL rt sz c ids x++T):=λrr=>by
    rw [Y0b _ _ (YB _),Y13];simp [famL]
   rcases hv with ⟨rfl,h0⟩|⟨id,rfl,hb⟩
   ·refine ⟨G,by rw [h0];rfl,lo,hi,?_⟩
    have:=H.say hk (r':=.sl .nils rt sz (r.map c) false) ⟨hs,.inl ⟨rfl,h0⟩⟩ rfl
    rwa [e] at this
   ·refine ⟨G.put id (.blk rt (vs (r.map c).flatten) false),?_,lo,hi,?_⟩
    ·rw [Z7v hb (by rw [Z0d,Z0G hs]),ZCL]
     simp only [Y0,Z7u hs]
    ·have:=H.put hk rfl (r':=.sl (.buf id (r.map c).length sz) rt sz (r.map c) false) ⟨hs,.inr ⟨id,rfl,Z1O⟩⟩ rfl
     rwa [e] at this
  obtain ⟨lo1,hi1,H1⟩:=H1;obtain ⟨G2,h2⟩:=fam_exp (d:=d) (ids:=ids) (x:=x) (by simpa using hl) H1
  exact ⟨G2,by simp only [Z0J,h1,Y0,h2,Y0H]⟩
 | [],_::_,G,lo,hi,A,T,h,_=>by simp at h
 | _::_,[],G,lo,hi,A,T,h,_=>by simp at h
theorem chunk_one:∀ (l:List FV),chunk 1 l.length l=l.map λy=>[y]
 | []=>rfl
 | y::l=>by simp only [Ye,chunk,Y0H];rw [<- chunk_one l];rfl
theorem mat_exp {α:Type} {rt et:TypeId} {sz id k m:Nat} {c:α->List FV} {ids:List PV} {x:List (List α)} {G:Heap} {lo hi:Nat} {L T:List Res} (H:Has G lo hi L) (hk:L[k]? = some (.blk id et ids)) (hL:L.drop (k+1)=famL rt sz c ids x++T) (hM:ids.length=x.length) (hm:ids.length=m) :
  ∃ G',Z08 6 G (.buf id m 1)=some (.sl (x.map λr=>[FV.sl (r.map c)]),G'):=by
 have hb:=H.blk hk
 have H2:=H.put hk rfl (r':=.hole id) (en:=.blk et ids false) trivial rfl
 have hlt:k<L.length:=Z2M hk
 have e:L.set k (.hole id)=(L.take k++[.hole id])++(famL rt sz c ids x++T):=by
  rw [Y0G,if_pos hlt,hL];simp
 rw [e] at H2
 obtain ⟨G',h⟩:=fam_exp (d:=3) hM H2
 refine ⟨G',?_⟩
 rw [Z7v hb (by rw [hm];omega)]
 have h':Z0J (Z08 5) (G.put id (.blk et ids false)) ids=some (x.map (λr=>FV.sl (r.map c)),G'):=h
 rw [h']
 simp only [Y0]
 have:m=(x.map (λr=>FV.sl (r.map c))).length:=by rw [YJ];omega
 rw [this,chunk_one,List.map_map]
 rfl
theorem Ends.M {α:Type} {X:Ctx} {rs:List ResultVar} {rt et:TypeId} {sz id m:Nat} {c:α->List FV} {ids:List PV} {x:List (List α)} {e:Env} {G:Heap} {lo hi:Nat} {L T:List Res} {xs:List PV} {r:PV} {ex:Ex} (hx:ex = .normal\/ex = .ret) (H:Has G lo hi L) (k:Nat) (hk:L[k]? = some (.blk id et ids)) (hL:L.drop (k+1)=famL rt sz c ids x++T) (hM:ids.length=x.length) (hm:ids.length=m)
  (h:Z0T X.P e G rs=some (.buf id m 1::xs)) (hp:xs.all PV.pure=true) (hr:Z28 (.v (.sl (x.map λr=>[FV.sl (r.map c)]))::xs)=r):Ends X rs r ex e G:=by
 obtain ⟨G',q⟩:=mat_exp H hk hL hM hm
 refine ⟨hx,_,G',h,?_⟩
 have q1:Z1k G (.buf id m 1)=some (.v (.sl (x.map λr=>[FV.sl (r.map c)])),G'):=by
  show (Z08 6 G (.buf id m 1)).bind _=_;rw [q];rfl
 rw [<- hr]
 cases xs with
 | nil=>exact q1
 | cons y ys=>
  show (Z2S G (.buf id m 1::y::ys)).bind _=_;simp only [Z2S,q1,Y0];have:=Z7x (G:=G') hp;simp only [Z2S] at this;rw [this]
  rfl
end Go.Dn

namespace Go.Dn
open Go
theorem set_back {l:List Bool} {i:Int} {u:Unit} (h:back? l i=some u):(l.set i.toNat true).set i.toNat false=l:=by
 unfold back? at h
 split at h
 ·rename_i h1;have h2:=(at?_some h1).2;apply List.ext_getElem?;intro j
  by_cases hj:i.toNat=j
  ·subst hj;have hl:=(List.getElem?_eq_some_iff.1 h2).1;rw [List.getElem?_set_self (by simpa using hl),h2]
  ·rw [Y0f hj,Y0f hj]
 ·cases h
section
variable {X:Ctx} {f:FuncId} {args:List PV} {r:PV}
theorem at_empty {α:Type} {l:List α} {i:Int} {x:α} (h:l.isEmpty=true) (q:at? l i=some x):False:=by
 cases l with
 | nil=>have:=(at?_some q).2;simp at this
 | cons a l=>cases h
theorem FnO.intr {X:Ctx} {f:FuncId} {args:List PV} {r:PV} (hi:X.intr f args=some r) (hp:args.all PV.pure=true):FnO X f args (λq A=>q=r/\A=[]):=λG T H=>
 ⟨r,G,[],Z2j (lf:=0) (by simp only [Z5d,hi,hp,if_true]),⟨rfl,rfl⟩,H⟩
theorem pure_vids {x:PV} (h:x.pure=true):vids x=[]:=by
 cases x<;>simp [PV.pure] at h<;>rfl
theorem args_vids {aa:List PV} {w:PV} (hp:aa.all PV.pure=true):(aa++[w]).flatMap vids=vids w:=by
 have:aa.flatMap vids=[]:=by
  rw [YG] at hp;rw [List.flatMap_eq_nil_iff];exact λx hx=>pure_vids (hp x hx)
 rw [List.flatMap_append,this]
 simp
theorem args_partOK {G:Heap} {aa:List PV} {w:PV} {e:TypeId} {sz:Nat} {xs:List (List FV)} (hp:aa.all PV.pure=true) (h:Res.holds G (.sl w e sz xs true)):Z5j G (aa++[w])=true:=by
 unfold Z5j
 rw [List.all_append,Y8]
 constructor
 ·rw [YG] at hp ⊢;intro x hx;have:=hp x hx;cases x<;>simp [PV.pure] at this ⊢<;>exact this
 ·obtain ⟨_,⟨rfl,_⟩|⟨id,rfl,h2⟩⟩:=h
  ·rfl
  ·simp only [Yy,List.all_nil,Bool.and_true,h2,vs_all]
theorem FnH.ofShut {fu:Func} {c:Code} {m:Nat} {aa:List PV} {w:PV} {el:TypeId} {sz:Nat} {xs:List (List FV)} (hargs:args=aa++[w]) (hpa:aa.all PV.pure=true) (hf:X.P.funcs[f]? = some fu) (hb:fu.body=some c) (hi:X.intr f args=none) (hk:X.keep f=true) (hs:X.shut f=true) (ho:X.opn f=false) (hm:max fu.ntmps args.length=m)
  (h:∀ G T,Hs G (.sl w el sz xs true::T)->Runs X m f c (Z6p args) G (EndsH X fu.results.toList r (.sl w el sz xs true::T))):FnH X f args r [.sl w el sz xs true]:=by
 subst hm
 subst hargs
 intro G lo hi' L hC H
 obtain ⟨k,hk0,_⟩:=hC.inv
 have h0:Res.holds G (.sl w el sz xs true):=H.holds k _ hk0
 have hids:=args_vids (w:=w) hpa
 have hpu:(aa++[w]).all PV.pure=false:=by
  obtain ⟨_,⟨rfl,_⟩|⟨id,rfl,_⟩⟩:=h0<;>simp [PV.pure]
 have H1:Hs (G.only (vids w)) [.sl w el sz xs true]:=by
  refine ⟨λj r hj=>?_,λj r hj id ho=>?_,λj j' r s hne hj hj'=>?_,YB _⟩
  ·cases j with
   | zero=>
    simp only [Y0E,Y5] at hj;subst hj;obtain ⟨p1,p2⟩:=h0;refine ⟨p1,p2.imp id λ⟨id,p3,p4⟩=>⟨id,p3,?_⟩⟩;subst p3;exact (if_pos (by simp [vids])).trans p4
   | succ j=>simp at hj
  ·cases j with
   | zero=>
    simp only [Y0E,Y5] at hj;subst hj;have:=(H.lt k _ hk0 id ho).2;exact ⟨.inl this,this⟩
   | succ j=>simp at hj
  ·cases j with
   | zero=>
    cases j' with
    | zero=>exact absurd rfl hne
    | succ j'=>simp at hj'
   | succ j=>simp at hj
 obtain ⟨lf,x,e',G1,h1,hE⟩:=(h _ _ H1).run
 obtain ⟨hx,ys,G2,lo2,hi2,h2,h3,H2⟩:=hE.out
 have h4:Res.holds G2 (.sl w el sz xs true):=H2.holds 0 _ rfl
 refine ⟨G,Z2j (lf:=lf) ?_,H⟩
 have hbody:Z1n X (Z0X X) lf f (aa++[w]) (G.only (vids w))=some (Z28 ys,G1):=by
  simp only [Z1n,hf,hb,h1];rcases hx with rfl|rfl<;>simp only [h2,YA]
 have hall:∀ id∈vids w,G2.ent id=G.ent id:=λid hid=>by
  obtain ⟨_,⟨rfl,_⟩|⟨k1,rfl,p1⟩⟩:=h0
  ·cases hid
  ·obtain ⟨_,⟨hh,_⟩|⟨k2,hh,p2⟩⟩:=h4
   ·cases hh
   ·injection hh with e1
    simp only [vids,YM] at hid;rw [hid,p1,e1,p2]
 simp only [Z5d,hi,hk,hs,if_true,ho,hpu,Y6,if_false,Y09,args_partOK hpa h0,hids,hbody,Y0,h3]
 exact if_pos (by rw [hids];exact hall)
theorem Ops.callHM {n:Nat} {dr:Bool} {ops:Array Oper} {base i:Nat} {l:List Oper} {e:Env} {G:Heap} {K:Env->Heap->Prop} {d:Nat} {t:TypeId} {p:String} {af:Array Edge} {lo hi:Nat} {L C:List Res}
  {cargs:Array Operand} {ts:Array TypeId} {aa:List PV} {w:PV} {el:TypeId} {sz:Nat} {xs:List (List FV)} {b:Bool} (H:Has G lo hi L) (k:Nat) (hk0:L[k]? = some (.sl w el sz xs b)) (hpa:aa.all PV.pure=true) (ha:ZZ X e cargs.toList=some (aa++[w])) (hf:FnH X f (aa++[w]) r C) (hC:Sub C L)
  (B:∀ id,w.owner=some id->id<base) (hkp:X.keep f=true) (hs:X.shut f=true) (ho:X.opn f=false) (hq:dr=true->Z9Q ops i=true) (hd:Nat.blt d n=true)
  (hk:∀ G',Has G' lo hi L->Ops X n dr ops base (i+1) l (set e d r) G' K) :
  Ops X n dr ops base i (⟨some d,.call { callee:=.value (.func f),args:=cargs,argTypes:=ts },t,p,af,none⟩::l) e G K:=by
 have hpu:(aa++[w]).all PV.pure=false:=by
  obtain ⟨_,⟨rfl,_⟩|⟨id,rfl,_⟩⟩:=H.sl hk0<;>simp [PV.pure]
 have hold:((aa++[w]).flatMap vids).all (λk=>decide (k<base))=true:=by
  rw [args_vids hpa,YG];intro id hid;obtain ⟨_,⟨rfl,_⟩|⟨k1,rfl,_⟩⟩:=H.sl hk0
  ·cases hid
  ·simp only [vids,YM] at hid;subst hid;exact decide_eq_true (B _ rfl)
 obtain ⟨G',q1,q2⟩:=hf G lo hi L hC H
 refine .stepS (e1:=set e d r) (G1:=G') ?_ (λhdr=>⟨rfl,.inl ?_⟩) (hk G' q2)
 ·simp only [Z1K,Z0H,Z7,Zp,ha,Z0,q1,Y0,putD,if_pos (ZBU hd),set_eq]
 ·unfold Z67;simp only [hq hdr,ha,Z0,hs,hkp,ho,hpu,hold,Yx,Y09]
end
end Go.Dn

namespace Go.Dn
open Go
theorem appM {α:Type} {b:Nat} {x r:List α} {q:α} (h:app? b x [q]=some r):r=x++[q]/\(x.length+1)*b<=room:=by
 unfold app? at h
 split at h
 ·rename_i hr;cases h;exact ⟨rfl,by simpa using hr⟩
 ·cases h
theorem ZAX {α:Type} {b:Nat} {x r:List α} {q:α} {ids:List PV} {w:PV} (hM:ids.length=x.length) (h:app? b x [q]=some r):(ids++[w]).length=r.length:=by
 rw [(appM h).1,YR,YR,hM];rfl
theorem at_nil {α:Type} {i:Int} {r:α} (h:at? ([] : List α) i=some r):False:=by
 have:=(at?_some h).2
 simp at this
theorem Has.mat0 {G:Heap} {lo hi:Nat} {A:List Res} {α:Type} {rt et:TypeId} {sz id b:Nat} {c:α->List FV} {w:PV} {q:List α} {r:List (List α)} (k:Nat) (hk:A[k]? = some (.sl w rt sz (q.map c) true)) (hr:app? b [] [q]=some r)
  (H:Has G lo hi (.blk id et [w]::A)):Has G lo hi (A.eraseIdx k++(.blk id et [w]::(famL rt sz c [w] r++[]))):=by
 have e:=(appM hr).1
 subst e
 refine H.perm ?_
 have hlt:=Z2M hk
 have hA:A=A.take k++(.sl w rt sz (q.map c) true::A.drop (k+1)):=by
  have:=List.getElem?_eq_some_iff.1 hk;rw [<- this.2,<- Y0Q hlt,Y04]
 rw [Y0h]
 conv=>lhs;rw [hA]
 show (Res.blk id et [w]::(List.take k A++Res.sl w rt sz (List.map c q) true::List.drop (k+1) A)).Perm ((List.take k A++List.drop (k+1) A)++[.blk id et [w],.sl w rt sz (q.map c) true])
 refine List.Perm.trans ?_ Y0t
 exact (List.Perm.cons _ List.perm_middle)
theorem Has.matN {G:Heap} {lo hi:Nat} {A T:List Res} {α:Type} {rt et:TypeId} {sz id b:Nat} {c:α->List FV} {w:PV} {q:List α} {x r:List (List α)} {ids:List PV} (k:Nat) (hk:A[k]? = some (.sl w rt sz (q.map c) true)) (hM:ids.length=x.length) (hr:app? b x [q]=some r)
  (H:Has G lo hi (A++(.blk id et (ids++[w])::(famL rt sz c ids x++T)))):Has G lo hi (A.eraseIdx k++(.blk id et (ids++[w])::(famL rt sz c (ids++[w]) r++T))):=by
 have e:=(appM hr).1
 subst e
 refine H.perm ?_
 have hlt:=Z2M hk
 have hA:A=A.take k++(.sl w rt sz (q.map c) true::A.drop (k+1)):=by
  have:=List.getElem?_eq_some_iff.1 hk;rw [<- this.2,<- Y0Q hlt,Y04]
 rw [ZBM hM,Y0h]
 conv=>lhs;rw [hA]
 rw [Yu,Yu]
 refine List.Perm.append_left _ ?_
 rw [Y0F]
 refine List.perm_middle.symm.trans ?_
 refine List.Perm.append_left _ (List.Perm.trans (List.Perm.swap _ _ _) (List.Perm.cons _ ?_))
 rw [Yu]
 exact List.perm_middle.symm
section
variable {X:Ctx} {n:Nat} {dr:Bool} {ops:Array Oper} {base i:Nat} {l:List Oper} {e:Env} {G:Heap} {K:Env->Heap->Prop}
variable {d:Nat} {t t1:TypeId} {p:String} {af:Array Edge} {x y:Operand} {lo hi:Nat} {L:List Res}
theorem Ops.buildH {parts:Array (Nat×Operand)} {el rt:TypeId} {w z:PV} {sz:Nat} {xs:List (List FV)} (H:Has G lo hi L) (hlo:lo<=base+i) (hhi:base+i<hi) (k:Nat) (hk:L[k]? = some (.sl w rt sz xs true))
  (ht:tslice X.P t1=some el) (hp:Z4O X e parts.toList=some [(0,w)]) (hs:tsize X.P el=some 1) (hz:tzero X.P el=some [z]) (hh:X.hold t1 parts.toList=true) (hd:Nat.blt d n=true)
  (hlit:X.lit=false) (hk':∀ G',Has G' (base+i+1) hi (.blk (base+i) el [w]::L)->Ops X n dr ops base (i+1) l (set e d (.buf (base+i) 1 1)) G' K) :
  Ops X n dr ops base i (⟨some d,.buildSlice t1 1 parts,t,p,af,none⟩::l) e G K:=by
 have hw:w.cells=some [w]:=by
  rcases (H.sl hk).2 with ⟨rfl,_⟩|⟨id,rfl,_⟩<;>rfl
 have hf:Z6q (λi=>some (i*1,1)) (List.replicate 1 [z]).flatten [(0,w)]=some [w]:=by
  simp only [Z6q,hw]
  rfl
 have hl0:(X.lit&&(1:Nat) != 0)=false:=by rw [hlit];rfl
 refine .plain (x:=.buf (base+i) 1 1) (G1:=G.put (base+i) (.blk el [w] true)) ?_ (λ_=>ask0 ?_) hd (hk' _ (H.push hlo hhi (r':=.blk (base+i) el [w]) Z1O rfl))
 ·simp only [Z7,Z1l,hp,Y0,hh,Z92,Z2f,ht,hs,hz];rw [if_pos ⟨rfl,by decide,by decide⟩,hf]
  simp only [litR,hl0]
  rfl
 ·simp only [Zu,Z0O,frozen,hh]
  rfl
theorem Ops.appendM0 {α:Type} {el te:TypeId} {by_ idl:Nat} {w z:PV} {q:α} {r:List α} (H:Has G lo hi L) (hlo:lo<=base+i) (hhi:base+i<hi) (k:Nat) (hk:L[k]? = some (.blk idl te [w]))
  (hx:Z0 X e x=some .nils) (hy:Z0 X e y=some (.buf idl 1 1)) (hr:app? by_ [] [q]=some r) (ht:tslice X.P t1=some el) (hs:tsize X.P el=some 1) (hby:tbytes X.P el=some by_) (hz:tzero X.P el=some [z])
  (hc:(by_ != 0)=true) (hdr:dr=false) (hd:Nat.blt d n=true)
  (hk':∀ G',Has G' (base+i+1) hi (.blk (base+i) el [w]::L)->Ops X n dr ops base (i+1) l (set e d (.buf (base+i) r.length 1)) G' K) :
  Ops X n dr ops base i (⟨some d,.call { callee:=.builtin .append,args:=#[x,y],argTypes:=#[t1,t1] },t,p,af,none⟩::l) e G K:=by
 obtain ⟨rfl,hroom⟩:=appM hr
 have hb:=H.blk hk
 have hn:¬((1:Nat)=0\/by_=0\/(some [z]).map List.length≠some 1):=by
  rintro (h|h|h)
  ·cases h
  ·simp [h] at hc
  ·exact h rfl
 refine .plain (x:=.buf (base+i) 1 1) (G1:=G.put (base+i) (.blk el [w] true)) ?_ (λh=>by rw [hdr] at h;cases h) hd (hk' _ (H.push hlo hhi (r':=.blk (base+i) el [w]) Z1O rfl))
 simp only [Z7,Zp,ZZ,hx,hy,Y0,Z0N,if_true,Z1p,ht,hs,hby,Z3c,hb,hz]
 rw [if_pos ⟨trivial,rfl⟩]
 simp only
 rw [if_neg hn,if_neg (by decide),if_pos (by simpa using hroom)]
theorem Ops.appendM {α:Type} {el te:TypeId} {by_ idl id m:Nat} {w z:PV} {ids:List PV} {q:α} {xs r:List α} (H:Has G lo hi L) (hlo:lo<=base+i) (k:Nat) (hk:L[k]? = some (.blk id el ids)) (hM:ids.length=xs.length) (hN:ids.length=m) (j:Nat) (hj:L[j]? = some (.blk idl te [w]))
  (hx:Z0 X e x=some (.buf id m 1)) (hy:Z0 X e y=some (.buf idl 1 1)) (hr:app? by_ xs [q]=some r) (ht:tslice X.P t1=some el) (hs:tsize X.P el=some 1) (hby:tbytes X.P el=some by_) (hz:tzero X.P el=some [z])
  (hc:(by_ != 0)=true) (hdr:dr=false) (hd:Nat.blt d n=true)
  (hk':∀ G',Has G' (base+i+1) hi (L.set k (.blk id el (ids++[w])))->Ops X n dr ops base (i+1) l (set e d (.buf id r.length 1)) G' K) :
  Ops X n dr ops base i (⟨some d,.call { callee:=.builtin .append,args:=#[x,y],argTypes:=#[t1,t1] },t,p,af,none⟩::l) e G K:=by
 obtain ⟨rfl,hroom⟩:=appM hr
 have hb:=H.blk hk
 have hb2:=H.blk hj
 have hn:¬((1:Nat)=0\/by_=0\/(some [z]).map List.length≠some 1):=by
  rintro (h|h|h)
  ·cases h
  ·simp [h] at hc
  ·exact h rfl
 have hlen:(xs++[q]).length=m+1:=by rw [YR,<- hM,hN];rfl
 rw [hlen] at hk'
 refine .plain (x:=.buf id (m+1) 1) (G1:=G.put id (.blk el (ids++[w]) true)) ?_ (λh=>by rw [hdr] at h;cases h) hd (hk' _ ((H.put hk rfl (r':=.blk id el (ids++[w])) Z1O rfl).weak (Ya hlo (Y1A _)) (YB _)))
 simp only [Z7,Zp,ZZ,hx,hy,Y0,Z0N,if_true,Z1p,ht,hs,hby,Z3c,hb2,hz]
 rw [if_pos ⟨trivial,rfl⟩]
 simp only
 rw [if_neg hn]
 simp only [hb]
 rw [if_pos ⟨trivial,trivial,by omega,by rw [<- hN,hM];exact hroom⟩]
end
end Go.Dn

namespace Go.Dn
open Go Go.Proofs
def Z81 (sz by_:Nat):List PV->Option PV
 | [.v (.sl xs)]=>if (xs.all λy=>y.length==sz)=true/\xs.length*by_<=room then some (.v (.sl xs)) else none
 | _=>none
noncomputable def CA:Ctx:={ P:=Tryz.prog,glob:=λ_=>none,intr:=λf args=>if f=57 then Z81 7 48 args else if f=104 then Z81 1 24 args else if f=134 then Z81 2 16 args else none,opn:=λf=>f==40||f==151,keep:=λf=>false,lit:=true }
noncomputable def C0:Ctx:={ P:=Tryz.prog,glob:=λ_=>none,intr:=λ_ _=>none,opn:=λ_=>false,keep:=λ_=>false }
theorem prog_ok:ProgOK Tryz.prog:=by
 refine ⟨λf fn h=>?_,by kernel_rfl⟩
 have hall : Tryz.prog.funcs.all (fun fn => !(fn.name == "runtime.NumGoroutine")) = true := by kernel_rfl
 have:=Array.all_eq_true_iff_forall_mem.1 hall fn (Array.mem_of_getElem? h)
 simpa using this
theorem c0_ok:CtxOK C0:=⟨prog_ok,λf args r h=>by cases h⟩
theorem ZBw (f:FuncId) (fu:Func) (vs:Array Value) (w:World) (hf:Tryz.prog.funcs[f]? = some fu) (hb:fu.body.isSome=true):(callFunc f vs).run Tryz.prog w = .ok (.enter f vs) w:=by
 have hp:(program).run Tryz.prog w = .ok Tryz.prog w:=rfl
 simp only [callFunc,Sem.run_bind,hp,Result.andThen_ok,hf,prog_ok.names f fu hf]
 cases hc:fu.body with
 | none=>rw [hc] at hb;cases hb
 | some c=>simp
set_option maxRecDepth 100000 in
theorem cloneT57:CloneT Tryz.prog 23 42 7 48 [.v (.int .i64 0),.v (.int .i64 0),.v (.int .i64 0),.v (.int .i64 0),.v (.int .i64 0),.v (.bool false),.v (.bool false)]:=⟨rfl,rfl,rfl,rfl,rfl⟩
set_option maxRecDepth 100000 in
theorem cloneT104:CloneT Tryz.prog 32 58 1 24 [.nils]:=⟨rfl,rfl,rfl,rfl,rfl⟩
set_option maxRecDepth 100000 in
theorem cloneT134:CloneT Tryz.prog 97 108 2 16 [.v (.int .i64 0),.v (.int .i64 0)]:=⟨rfl,rfl,rfl,rfl,rfl⟩
theorem pvrs_one' {s:St} {x:PV} {vs:Array Value} (h:PVRs s [x] vs):∃ v,vs = #[v]/\PVR s x v:=by
 obtain ⟨hl,hx⟩:=h
 have:vs.size=1:=hl.symm
 refine ⟨vs.getD 0 Go.undef,?_,hx 0 x rfl⟩
 apply Array.ext
 ·simpa using this
 ·intro i h1 h2;have:i=0:=by simp at h2;omega
  subst this;simp [Array.getD,h1]
theorem ca_ok:CtxOK CA:=by
 refine ⟨prog_ok,λf args r h s hi hG vs hv hp=>?_⟩
 simp only [CA] at h
 split at h
 ·rename_i hf;subst hf;refine ⟨ZBw 57 _ _ _ Tryz.func57 rfl,?_⟩;unfold Z81 at h
  split at h
  ·split at h
   ·rename_i xs hx;cases h;obtain ⟨v,rfl,hv1⟩:=pvrs_one' hv;exact Z8g (X:=C0) (b:=4) c0_ok Tryz.func57 rfl rfl rfl (λ_=>rfl) cloneT57 hi hx.1 hx.2 hv1
   ·cases h
  ·cases h
 split at h
 ·rename_i hf;subst hf;refine ⟨ZBw 104 _ _ _ Tryz.func104 rfl,?_⟩;unfold Z81 at h
  split at h
  ·split at h
   ·rename_i xs hx;cases h;obtain ⟨v,rfl,hv1⟩:=pvrs_one' hv;exact Z8g (X:=C0) (b:=4) c0_ok Tryz.func104 rfl rfl rfl (λ_=>rfl) cloneT104 hi hx.1 hx.2 hv1
   ·cases h
  ·cases h
 split at h
 ·rename_i hf;subst hf;refine ⟨ZBw 134 _ _ _ Tryz.func134 rfl,?_⟩;unfold Z81 at h
  split at h
  ·split at h
   ·rename_i xs hx;cases h;obtain ⟨v,rfl,hv1⟩:=pvrs_one' hv;exact Z8g (X:=C0) (b:=4) c0_ok Tryz.func134 rfl rfl rfl (λ_=>rfl) cloneT134 hi hx.1 hx.2 hv1
   ·cases h
  ·cases h
 cases h
def closeV:List PV->Option PV
 | [.v (.sl [])]=>some (.tup [.v (.sl []),.v (.bool true),.v (.int .i64 0)])
 | _=>none
theorem close0 (G:Heap):Z0Y CA 60 (.fn 55) [.v (.sl [])] G=some (.tup [.v (.sl []),.v (.bool true),.v (.int .i64 0)],G):=by kernel_rfl
def emptyV:List PV->Option PV
 | [.v (.sl [])]=>some (.v (.sl []))
 | _=>none
theorem empty57 (G:Heap):Z0Y CA 60 (.fn 57) [.v (.sl [])] G=some (.v (.sl []),G):=by kernel_rfl
def litV36:List PV->Option PV
 | [.agg [.v a0,.v a1,.v a2,.v a3,.v a4,.v a5,.v a6]]=>some (.agg [.v (.int .i64 3),.v (.sl [[.int .i64 1,.int .i64 1,.sl [[.sl [[.int .i64 0,.int .i64 0]]]],.sl []],[.int .i64 7,.int .i64 1,.sl [[.sl [[.int .i64 0,.int .i64 4]]]],.sl []]]),.v (.sl [[.int .i64 0,.int .i64 1,.int .i64 1,.int .i64 1,.int .i64 1,.bool true,.bool true],[.int .i64 1,.int .i64 2,.int .i64 0,.int .i64 2,.int .i64 3,.bool true,.bool true],[a0,a1,a2,a3,a4,a5,a6]])])
 | _=>none
theorem lit36 (a0 a1 a2 a3 a4 a5 a6:FV) (G:Heap):Z0Y CA 60 (.fn 36) [.agg [.v a0,.v a1,.v a2,.v a3,.v a4,.v a5,.v a6]] G=some ((.agg [.v (.int .i64 3),.v (.sl [[.int .i64 1,.int .i64 1,.sl [[.sl [[.int .i64 0,.int .i64 0]]]],.sl []],[.int .i64 7,.int .i64 1,.sl [[.sl [[.int .i64 0,.int .i64 4]]]],.sl []]]),.v (.sl [[.int .i64 0,.int .i64 1,.int .i64 1,.int .i64 1,.int .i64 1,.bool true,.bool true],[.int .i64 1,.int .i64 2,.int .i64 0,.int .i64 2,.int .i64 3,.bool true,.bool true],[a0,a1,a2,a3,a4,a5,a6]])]),G):=by kernel_rfl
noncomputable def CX:Ctx:={ P:=Tryz.prog,glob:=λ_=>none,intr:=λf args=>if f=55 then closeV args else if f=57 then emptyV args else if f=36 then litV36 args else if f=134 then Z81 2 16 args else none,opn:=λf=>f==40||f==57||f==83||f==85||f==86||f==97||f==104||f==105||f==107||f==151,keep:=λf=>f==85||f==93||f==97,view:=λo=>match o with | .slice 58 (.tmp 39) (some (.tmp 40)) none none=>true | .slice 58 (.tmp 42) none (some (.tmp 43)) none=>true|_=>false,shut:=λf=>f==93,thaw:=λf=>f==58,hold:=λt ps=>match t,ps with|32,[(0,.tmp 35)]=>true|_,_=>false }
theorem cx_ok:CtxOK CX:=by
 refine ⟨prog_ok,λf args r h s hi hG vs hv hp=>?_⟩
 simp only [CX] at h
 split at h
 ·rename_i hf;subst hf;unfold closeV at h
  split at h
  ·cases h;exact Z8j ca_ok 60 (.fn 55) _ _ _ s (close0 s.G) hi hG vs hv
  ·cases h
 split at h
 ·rename_i hf;subst hf;unfold emptyV at h
  split at h
  ·cases h;exact Z8j ca_ok 60 (.fn 57) _ _ _ s (empty57 s.G) hi hG vs hv
  ·cases h
 split at h
 ·rename_i hf;subst hf;unfold litV36 at h
  split at h
  ·cases h;exact Z8j ca_ok 60 (.fn 36) _ _ _ s (lit36 _ _ _ _ _ _ _ s.G) hi hG vs hv
  ·cases h
 split at h
 ·rename_i hf;subst hf;exact ca_ok.intr 134 args r h s hi hG vs hv hp
 cases h
theorem cx_intr134 (args:List PV):CX.intr 134 args=Z81 2 16 args:=rfl
end Go.Dn

namespace Go.Dn
open Go
noncomputable section
structure Span where
 From:Int
 To:Int
 deriving DecidableEq
def Span.cs (x:Span):List FV:=[(.int .i64 x.From),(.int .i64 x.To)]
def Span.ok (x:Span):Prop:=okI .i64 x.From/\okI .i64 x.To
structure Granule where
 Index:Int
 Ticks:(List Span)
 deriving DecidableEq
def Granule.cs (x:Granule):List FV:=[(.int .i64 x.Index),(.sl (x.Ticks.map Span.cs))]
def Granule.ok (x:Granule):Prop:=okI .i64 x.Index/\okL 16 Span.ok x.Ticks
structure Form where
 Period:Int
 Count:Int
 Core:(List (List Span))
 Odd:(List Granule)
 deriving DecidableEq
def Form.cs (x:Form):List FV:=[(.int .i64 x.Period),(.int .i64 x.Count),(.sl (x.Core.map (cL Span.cs))),(.sl (x.Odd.map Granule.cs))]
def Form.ok (x:Form):Prop:=okI .i64 x.Period/\okI .i64 x.Count/\okL 24 (okL 16 Span.ok) x.Core/\okL 32 Granule.ok x.Odd
structure Bound where
 Inf:Int
 N:Int
 deriving DecidableEq
def Bound.cs (x:Bound):List FV:=[(.int .i8 x.Inf),(.int .i64 x.N)]
def Bound.ok (x:Bound):Prop:=okI .i8 x.Inf/\okI .i64 x.N
structure Range where
 Low:Int
 High:Int
 HasLow:Bool
 HasHigh:Bool
 deriving DecidableEq
def Range.cs (x:Range):List FV:=[(.int .i64 x.Low),(.int .i64 x.High),(.bool x.HasLow),(.bool x.HasHigh)]
def Range.ok (x:Range):Prop:=okI .i64 x.Low/\okI .i64 x.High/\okB x.HasLow/\okB x.HasHigh
structure size_place where
 first:Int
 last:Int
 deriving DecidableEq
def size_place.cs (x:size_place):List FV:=[(.int .i64 x.first),(.int .i64 x.last)]
def size_place.ok (x:size_place):Prop:=okI .i64 x.first/\okI .i64 x.last
structure size_spot where
 index:Int
 place:size_place
 deriving DecidableEq
def size_spot.cs (x:size_spot):List FV:=[(.int .i64 x.index),(.int .i64 x.place.first),(.int .i64 x.place.last)]
def size_spot.ok (x:size_spot):Prop:=okI .i64 x.index/\size_place.ok x.place
structure size_form where
 Form:Form
 spots:(List size_spot)
 deriving DecidableEq
def size_form.cs (x:size_form):List FV:=[(.int .i64 x.Form.Period),(.int .i64 x.Form.Count),(.sl (x.Form.Core.map (cL Span.cs))),(.sl (x.Form.Odd.map Granule.cs)),(.sl (x.spots.map size_spot.cs))]
def size_form.ok (x:size_form):Prop:=Form.ok x.Form/\okL 24 size_spot.ok x.spots
structure carry_asked where
 f:Form
 m:Int
 deriving DecidableEq
def carry_asked.cs (x:carry_asked):List FV:=[(.int .i64 x.f.Period),(.int .i64 x.f.Count),(.sl (x.f.Core.map (cL Span.cs))),(.sl (x.f.Odd.map Granule.cs)),(.int .i64 x.m)]
def carry_asked.ok (x:carry_asked):Prop:=Form.ok x.f/\okI .i64 x.m
structure Con where
 X:Int
 Y:Int
 Form:Int
 Range:Range
 deriving DecidableEq
def Con.cs (x:Con):List FV:=[(.int .i64 x.X),(.int .i64 x.Y),(.int .i64 x.Form),(.int .i64 x.Range.Low),(.int .i64 x.Range.High),(.bool x.Range.HasLow),(.bool x.Range.HasHigh)]
def Con.ok (x:Con):Prop:=okI .i64 x.X/\okI .i64 x.Y/\okI .i64 x.Form/\Range.ok x.Range
structure Net where
 Vars:Int
 Forms:(List Form)
 Cons:(List Con)
 deriving DecidableEq
def Net.cs (x:Net):List FV:=[(.int .i64 x.Vars),(.sl (x.Forms.map Form.cs)),(.sl (x.Cons.map Con.cs))]
def Net.ok (x:Net):Prop:=okI .i64 x.Vars/\okL 64 Form.ok x.Forms/\okL 48 Con.ok x.Cons
structure epactlaw24_Set where
 I:Int
 J:Int
 Most:Bound
 deriving DecidableEq
def epactlaw24_Set.cs (x:epactlaw24_Set):List FV:=[(.int .i64 x.I),(.int .i64 x.J),(.int .i8 x.Most.Inf),(.int .i64 x.Most.N)]
def epactlaw24_Set.ok (x:epactlaw24_Set):Prop:=okI .i64 x.I/\okI .i64 x.J/\Bound.ok x.Most
structure prop_end where
 n:Int
 there:Bool
 deriving DecidableEq
def prop_end.cs (x:prop_end):List FV:=[(.int .i64 x.n),(.bool x.there)]
def prop_end.ok (x:prop_end):Prop:=okI .i64 x.n/\okB x.there
structure Spread where
 Kind:Int
 Net:Net
 Ticks:(List (List Bound))
 Rounds:Int
 deriving DecidableEq
def Spread.cs (x:Spread):List FV:=[(.int .u8 x.Kind),(.int .i64 x.Net.Vars),(.sl (x.Net.Forms.map Form.cs)),(.sl (x.Net.Cons.map Con.cs)),(.sl (x.Ticks.map (cL Bound.cs))),(.int .i64 x.Rounds)]
def Spread.ok (x:Spread):Prop:=okI .u8 x.Kind/\Net.ok x.Net/\okL 24 (okL 16 Bound.ok) x.Ticks/\okI .i64 x.Rounds
def Z0a.s0 (f:Form) (s1:Int×Int):Option ((Int×Int)⊕(Int)) :=
 (bif (decide (s1.2<(f.Core.length:Int))) then
  (at? f.Core s1.2).bind λx1=>
  some (.inl ((w64 (s1.1+(x1.length:Int))),(w64 (s1.2+1))))
 else
  some (.inr s1.1))
def Z0a.s1 (f:Form) (s2:Int×Int):Option ((Int×Int)⊕(Int)) :=
 (bif (decide (s2.2<(f.Odd.length:Int))) then
  (at? f.Odd s2.2).bind λx2=>
  some (.inl ((w64 (s2.1+(x2.Ticks.length:Int))),(w64 (s2.2+1))))
 else
  some (.inr s2.1))
def Z0a (f:Form):Option (Int) :=
 (loopO (Z0a.s0 f) (0,0)).bind λ(y1:Int)=>
 (loopO (Z0a.s1 f) (y1,0)).bind λ(y2:Int)=>
 some y2
def Z32 (f:Form):Option (Bool) :=
 (
  (bif ((decide ((f.Core.length:Int)<=12))&&(decide ((f.Odd.length:Int)<=8))) then
   (Z0a f).bind λx1=>
   some (decide (x1<=60))
  else
   some false)).bind λ(y1:Bool)=>
 some y1
def Z1A (t:Int):Bool :=
 ((decide (t>=(-1099511627776)))&&(decide (t<=1099511627776)))
def Z0e.s0 (l:(List Span)) (s1:Int):Option ((Int)⊕(Jx (Unit) (Bool))) :=
 (bif (decide (s1<(l.length:Int))) then
  (at? l s1).bind λx1=>
  (
   (bif (((!(Z1A x1.From))||(!(Z1A x1.To)))||(decide (x1.From>x1.To))) then
    some true
   else
    (
     (bif (decide (s1>0)) then
      (at? l (w64 (s1-1))).bind λx2=>
      some (decide (x1.From<(w64 (x2.To+2))))
     else
      some false)).bind λ(y3:Bool)=>
    some y3)).bind λ(y2:Bool)=>
  (bif y2 then
   some (.inr (.ret false))
  else
   some (.inl (w64 (s1+1))))
 else
  some (.inr (.go ())))
def Z0e (l:(List Span)):Option (Bool) :=
 (loopO (Z0e.s0 l) 0).bind λ(y1:Jx (Unit) (Bool))=>
 y1.elim (λr'=>
   some r') λa2=>
 some true
def Z1P (i:Int):Bool :=
 ((decide (i>=(-1099511627776)))&&(decide (i<=1099511627776)))
def Zq.s0 (f:Form) (s1:Int):Option ((Int)⊕(Jx (Unit) (Bool))) :=
 (bif (decide (s1<(f.Core.length:Int))) then
  (at? f.Core s1).bind λx1=>
  (Z0e x1).bind λx2=>
  (bif (!x2) then
   some (.inr (.ret false))
  else
   some (.inl (w64 (s1+1))))
 else
  some (.inr (.go ())))
def Zq.s1 (f:Form) (s2:Int):Option ((Int)⊕(Jx (Unit) (Bool))) :=
 (bif (decide (s2<(f.Odd.length:Int))) then
  (at? f.Odd s2).bind λx3=>
  (Z0e x3.Ticks).bind λx4=>
  (
   (bif ((!x4)||(!(Z1P x3.Index))) then
    some true
   else
    (
     (bif (decide (s2>0)) then
      (at? f.Odd (w64 (s2-1))).bind λx5=>
      some (decide (x3.Index<=x5.Index))
     else
      some false)).bind λ(y4:Bool)=>
    some y4)).bind λ(y3:Bool)=>
  (bif y3 then
   some (.inr (.ret false))
  else
   some (.inl (w64 (s2+1))))
 else
  some (.inr (.go ())))
def Zq (f:Form):Option (Bool) :=
 (bif ((((f.Count != (f.Core.length:Int))||((f.Count==0) != (f.Period==0)))||(decide (f.Period<0)))||(decide (f.Period>1099511627776))) then
  some false
 else
  (loopO (Zq.s0 f) 0).bind λ(y1:Jx (Unit) (Bool))=>
  y1.elim (λr'=>
    some r') λa2=>
  (loopO (Zq.s1 f) 0).bind λ(y2:Jx (Unit) (Bool))=>
  y2.elim (λr'=>
    some r') λa4=>
  some true)
def Z0S.s0 (f:Form) (s2:Int×(List (List Span))):Option ((Int×(List (List Span)))⊕((List (List Span)))) :=
 (bif (decide (s2.1<(f.Core.length:Int))) then
  (
   (
    (at? f.Core s2.1).bind λx1=>
    (bif (decide ((x1.length:Int)>0)) then
     (app? 24 s2.2 [x1]).bind λx2=>
     some x2
    else
     some s2.2)).bind λ(y3:(List (List Span)))=>
   some y3).bind λ(y2:(List (List Span)))=>
  some (.inl ((w64 (s2.1+1)),y2))
 else
  some (.inr s2.2))
def Z0S.s1 (f:Form) (y1:(List (List Span))) (s3:Int):Option ((Int)⊕(Jx (Unit) (Bool))) :=
 (bif (decide (s3<(y1.length:Int))) then
  (
   (
    (at? y1 s3).bind λx3=>
    (nz? (y1.length:Int)).bind λu1=>
    (at? y1 ((w64 (s3+1)).tmod (y1.length:Int))).bind λx4=>
    (
     (bif ((w64 (s3+1))==(y1.length:Int)) then
      some f.Period
     else
      some 0)).bind λ(y7:Int)=>
    (at? x3 (w64 ((x3.length:Int)-1))).bind λx5=>
    (at? x4 0).bind λx6=>
    (bif (decide (x5.To>=(w64 (x6.From+y7)))) then
     some (.ret false)
    else
     some (.go ()))).bind λ(y6:Jx (Unit) (Bool))=>
   y6.elim (λr'=>
     some (.ret r')) λa4=>
   some (.go ())).bind λ(y5:Jx (Unit) (Bool))=>
  y5.elim (λr'=>
    some (.inr (.ret r'))) λa5=>
  some (.inl (w64 (s3+1)))
 else
  some (.inr (.go ())))
def Z0S (f:Form):Option (Bool) :=
 (loopO (Z0S.s0 f) (0,[])).bind λ(y1:(List (List Span)))=>
 (loopO (Z0S.s1 f y1) 0).bind λ(y4:Jx (Unit) (Bool))=>
 y4.elim (λr'=>
   some r') λa6=>
 some true
def Z2.s0 (x':(List Granule)) (target:Int) (cmp:Granule->Int->Option Int) (s1:Int×Int):Option ((Int×Int)⊕(Int)) :=
 (bif (decide (s1.1<s1.2)) then
  (
   (at? x' (w64 ((IntKind.u64.wrap (w64 (s1.1+s1.2))).fdiv (2 ^ 1)))).bind λx1=>
   (cmp x1 target).bind λx2=>
   (bif (decide (x2<0)) then
    some ((w64 ((w64 ((IntKind.u64.wrap (w64 (s1.1+s1.2))).fdiv (2 ^ 1)))+1)),s1.2)
   else
    some (s1.1,(w64 ((IntKind.u64.wrap (w64 (s1.1+s1.2))).fdiv (2 ^ 1)))))).bind λ(y2:Int×Int)=>
  some (.inl (y2.1,y2.2))
 else
  some (.inr s1.1))
def Z2 (x':(List Granule)) (target:Int) (cmp:Granule->Int->Option Int):Option (Int×Bool) :=
 (loopO (Z2.s0 x' target cmp) (0,(x'.length:Int))).bind λ(y1:Int)=>
 (
  (bif (decide (y1<(x'.length:Int))) then
   (at? x' y1).bind λx3=>
   (cmp x3 target).bind λx4=>
   some (x4==0)
  else
   some false)).bind λ(y3:Bool)=>
 some (y1,y3)
def Z3U (x':Int):Bool :=
 (x' != x')
def Z2X (x':Int) (y:Int):Int :=
 (bif (Z3U x') then
  (bif (Z3U y) then
   0
  else
   (-1))
 else
  (bif (Z3U y) then
   1
  else
   (bif (decide (x'<y)) then
    (-1)
   else
    (bif (decide (x'>y)) then
     1
    else
     0))))
def Z4R (g:Granule) (i:Int):Int :=
 (Z2X g.Index i)
def Z5X (f:Form) (i:Int):Option (Int×Bool) :=
 (Z2 f.Odd i (λz0 z1=>some (Z4R z0 z1))).bind λx1=>
 some (x1.1,x1.2)
def Z1D (a:Int) (b:Int):Option (Int×Int×Int) :=
 (bif (b==0) then
  some (0,0,11)
 else
  (bif ((b==(-1))&&(a==(-9223372036854775808))) then
   some (0,0,10)
  else
   (nz? b).bind λu1=>
   (nz? b).bind λu2=>
   (
    (bif (((a.tmod b) != 0)&&((decide ((a.tmod b)<0)) != (decide (b<0)))) then
     some ((w64 ((w64 (a.tdiv b))-1)),(w64 ((a.tmod b)+b)))
    else
     some ((w64 (a.tdiv b)),(a.tmod b)))).bind λ(y1:Int×Int)=>
   some (y1.1,y1.2,0)))
def Z1q (a:Int):Int :=
 (bif (decide (a<0)) then
  (IntKind.u64.wrap (0-(IntKind.u64.wrap a)))
 else
  (IntKind.u64.wrap a))
def Z0I (x':Int) (y:Int):Int×Int :=
 ((IntKind.u64.wrap ((IntKind.u64.wrap ((IntKind.u64.wrap ((x'.fdiv (2 ^ 32))*(y.fdiv (2 ^ 32))))+((IntKind.u64.wrap ((IntKind.u64.wrap ((x'.fdiv (2 ^ 32))*(iAnd .u64 y 4294967295)))+((IntKind.u64.wrap ((iAnd .u64 x' 4294967295)*(iAnd .u64 y 4294967295))).fdiv (2 ^ 32)))).fdiv (2 ^ 32))))+((IntKind.u64.wrap ((iAnd .u64 (IntKind.u64.wrap ((IntKind.u64.wrap ((x'.fdiv (2 ^ 32))*(iAnd .u64 y 4294967295)))+((IntKind.u64.wrap ((iAnd .u64 x' 4294967295)*(iAnd .u64 y 4294967295))).fdiv (2 ^ 32)))) 4294967295)+(IntKind.u64.wrap ((iAnd .u64 x' 4294967295)*(y.fdiv (2 ^ 32)))))).fdiv (2 ^ 32)))),(IntKind.u64.wrap (x'*y)))
def Z4X (n:Int) (minus:Bool):Int×Int :=
 (bif (minus&&(decide (n<=9223372036854775808))) then
  ((w64 (IntKind.u64.wrap (0-n))),0)
 else
  (bif ((!minus)&&(decide (n<=9223372036854775807))) then
   ((w64 n),0)
  else
   (0,10)))
def Z4A (a:Int) (b:Int):Int×Int :=
 (bif (((Z0I (Z1q a) (Z1q b)).1) != 0) then
  (0,10)
 else
  ((Z4X ((Z0I (Z1q a) (Z1q b)).2) ((decide (a<0)) != (decide (b<0)))).1,(Z4X ((Z0I (Z1q a) (Z1q b)).2) ((decide (a<0)) != (decide (b<0)))).2))
def Z3R (f:Form) (i:Int):Option ((List Span)×Int×Int) :=
 (Z5X f i).bind λx1=>
 (bif x1.2 then
  (at? f.Odd x1.1).bind λx2=>
  some (x2.Ticks,0,0)
 else
  (bif (f.Count==0) then
   some ([],0,0)
  else
   (Z1D i f.Count).bind λx3=>
   (at? f.Core x3.2.1).bind λx4=>
   some (x4,(Z4A x3.1 f.Period).1,(Z4A x3.1 f.Period).2)))
def Zc (a:Int) (b:Int):Int×Int :=
 (bif (((decide ((w64 (a+b))>a)) != (decide (b>0)))&&(b != 0)) then
  (0,10)
 else
  ((w64 (a+b)),0))
def Z0h.s0 (l:(List Span)) (by':Int) (s2:Int×(List Span)):Option ((Int×(List Span))⊕(Jx ((List Span)) ((List Span)×Int))) :=
 (bif (decide (s2.1<(l.length:Int))) then
  (at? l s2.1).bind λx1=>
  (bif ((((((Zc x1.From by').2) != 0)||(((Zc x1.To by').2) != 0))||(!(Z1A ((Zc x1.From by').1))))||(!(Z1A ((Zc x1.To by').1)))) then
   some (.inr (.ret ([],20)))
  else
   (app? 16 s2.2 [(Span.mk ((Zc x1.From by').1) ((Zc x1.To by').1))]).bind λx2=>
   some (.inl ((w64 (s2.1+1)),x2)))
 else
  some (.inr (.go s2.2)))
def Z0h (l:(List Span)) (by':Int):Option ((List Span)×Int) :=
 (loopO (Z0h.s0 l by') (0,[])).bind λ(y1:Jx ((List Span)) ((List Span)×Int))=>
 y1.elim (λr'=>
   some r') λa2=>
 some (a2,0)
def Z2b (f:Form) (i:Int):Option ((List Span)×Int) :=
 (bif (!(Z1P i)) then
  some ([],20)
 else
  (Z3R f i).bind λx1=>
  (bif ((x1.1.length:Int)==0) then
   some ([],0)
  else
   (bif (x1.2.2 != 0) then
    some ([],20)
   else
    (Z0h x1.1 x1.2.1).bind λx2=>
    some (x2.1,x2.2))))
def ZD.s0 (s:(List (List Span))) (f:(List Span)->Option Bool) (s1:Int):Option ((Int)⊕(Jx (Unit) (Int))) :=
 (bif (decide (s1<(s.length:Int))) then
  (at? s s1).bind λx1=>
  (f x1).bind λx2=>
  (bif x2 then
   some (.inr (.ret s1))
  else
   some (.inl (w64 (s1+1))))
 else
  some (.inr (.go ())))
def ZD (s:(List (List Span))) (f:(List Span)->Option Bool):Option (Int) :=
 (loopO (ZD.s0 s f) 0).bind λ(y1:Jx (Unit) (Int))=>
 y1.elim (λr'=>
   some r') λa2=>
 some (-1)
def Ze (s:(List (List Span))) (f:(List Span)->Option Bool):Option (Bool) :=
 (ZD s f).bind λx1=>
 some (decide (x1>=0))
def Z5S (l:(List Span)):Bool :=
 (decide ((l.length:Int)>0))
def Z3v (f:Form):Option (Bool) :=
 (Ze f.Core (λz0=>some (Z5S z0))).bind λx1=>
 some (!x1)
def Z5E (f:Form) (i:Int):Option (Bool) :=
 (Z3R f i).bind λx1=>
 some (decide ((x1.1.length:Int)>0))
def Z0A.s0 (f:Form) (by':Int) (s1:Int):Option ((Int)⊕(Jx (Unit) (Int×Bool))) :=
 (bif ((decide (s1>=0))&&(decide (s1<(f.Odd.length:Int)))) then
  (at? f.Odd s1).bind λx3=>
  (bif (decide ((x3.Ticks.length:Int)>0)) then
   (at? f.Odd s1).bind λx4=>
   some (.inr (.ret (x4.Index,true)))
  else
   some (.inl (w64 (s1+by'))))
 else
  some (.inr (.go ())))
def Z0A.s1 (f:Form) (by':Int) (s2:Int):Option ((Int)⊕(Jx (Unit) (Int×Bool))) :=
 (bif (Z1P s2) then
  (Z5E f s2).bind λx5=>
  (bif x5 then
   some (.inr (.ret (s2,true)))
  else
   some (.inl (w64 (s2+by'))))
 else
  some (.inr (.go ())))
def Z0A (f:Form) (from':Int) (by':Int):Option (Int×Bool) :=
 (Z3v f).bind λx1=>
 (bif x1 then
  (Z5X f from').bind λx2=>
  (
   (bif ((decide (by'<0))&&(!x2.2)) then
    some (w64 (x2.1-1))
   else
    some x2.1)).bind λ(y1:Int)=>
  (loopO (Z0A.s0 f by') y1).bind λ(y2:Jx (Unit) (Int×Bool))=>
  y2.elim (λr'=>
    some r') λa2=>
  some (0,false)
 else
  (loopO (Z0A.s1 f by') from').bind λ(y3:Jx (Unit) (Int×Bool))=>
  y3.elim (λr'=>
    some r') λa4=>
  some (0,false))
def Z3E (f:Form) (i:Int):Option (Int×Bool) :=
 (bif (decide (i<=(-1099511627776))) then
  some (0,false)
 else
  (Z0A f (iMin (w64 (i-1)) 1099511627776) (-1)).bind λx1=>
  some (x1.1,x1.2))
def Z2B (f:Form) (i:Int):Option (Int×Bool) :=
 (bif (decide (i>=1099511627776)) then
  some (0,false)
 else
  (Z0A f (iMax (w64 (i+1)) (-1099511627776)) 1).bind λx1=>
  some (x1.1,x1.2))
def Z1E (a:(List Span)) (b:(List Span)):Option (Bool) :=
 (
  (bif (((a.length:Int)==0)||((b.length:Int)==0)) then
   some true
  else
   (at? a (w64 ((a.length:Int)-1))).bind λx1=>
   (at? b 0).bind λx2=>
   some (decide (x1.To<x2.From)))).bind λ(y1:Bool)=>
 some y1
def Z2h (f:Form) (i:Int):Option (Bool) :=
 (Z2b f i).bind λx1=>
 (bif (x1.2 != 0) then
  some false
 else
  (Z3E f i).bind λx2=>
  (Z2B f i).bind λx3=>
  (
   (bif x2.2 then
    (Z2b f x2.1).bind λx4=>
    (bif (x4.2 != 0) then
     some (.ret false)
    else
     some (.go x4.1))
   else
    some (.go []))).bind λ(y1:Jx ((List Span)) (Bool))=>
  y1.elim (λr'=>
    some r') λa2=>
  (
   (bif x3.2 then
    (Z2b f x3.1).bind λx5=>
    (bif (x5.2 != 0) then
     some (.ret false)
    else
     some (.go x5.1))
   else
    some (.go []))).bind λ(y2:Jx ((List Span)) (Bool))=>
  y2.elim (λr'=>
    some r') λa4=>
  (Z1E a2 x1.1).bind λx6=>
  (
   (bif x6 then
    (Z1E x1.1 a4).bind λx7=>
    some x7
   else
    some false)).bind λ(y3:Bool)=>
  (
   (bif y3 then
    (Z1E a2 a4).bind λx8=>
    some x8
   else
    some false)).bind λ(y4:Bool)=>
  some y4)
def Z09.s0 (f:Form) (s1:Int):Option ((Int)⊕(Jx (Unit) (Int))) :=
 (bif (decide (s1<(f.Odd.length:Int))) then
  (at? f.Odd s1).bind λx4=>
  (Z2h f x4.Index).bind λx5=>
  (bif (!x5) then
   some (.inr (.ret 50))
  else
   some (.inl (w64 (s1+1))))
 else
  some (.inr (.go ())))
def Z09 (f:Form):Option (Int) :=
 (
  (bif ((decide ((f.Core.length:Int)>6000))||(decide ((f.Odd.length:Int)>6000))) then
   some true
  else
   (Z0a f).bind λx1=>
   some (decide (x1>60000)))).bind λ(y1:Bool)=>
 (bif y1 then
  some 3
 else
  (Zq f).bind λx2=>
  (
   (bif (!x2) then
    some true
   else
    (Z0S f).bind λx3=>
    some (!x3))).bind λ(y2:Bool)=>
  (bif y2 then
   some 50
  else
   (loopO (Z09.s0 f) 0).bind λ(y3:Jx (Unit) (Int))=>
   y3.elim (λr'=>
     some r') λa2=>
   some 0))
def Zb.s0 (s1':(List Span)) (s2':(List Span)) (s1:Int):Option ((Int)⊕(Jx (Unit) (Bool))) :=
 (bif (decide (s1<(s1'.length:Int))) then
  (at? s1' s1).bind λx1=>
  (at? s2' s1).bind λx2=>
  (bif (!((x1.From==x2.From)&&((x1.To==x2.To)&&true))) then
   some (.inr (.ret false))
  else
   some (.inl (w64 (s1+1))))
 else
  some (.inr (.go ())))
def Zb (s1':(List Span)) (s2':(List Span)):Option (Bool) :=
 (bif ((s1'.length:Int) != (s2'.length:Int)) then
  some false
 else
  (loopO (Zb.s0 s1' s2') 0).bind λ(y1:Jx (Unit) (Bool))=>
  y1.elim (λr'=>
    some r') λa2=>
  some true)
def Z4L (a:(List Span)) (b:(List Span)):Option (Bool) :=
 (Zb a b).bind λx1=>
 some x1
def ZA.s0 (s1':(List Span)) (s2':(List Span)) (eq:Span->Span->Option Bool) (s1:Int):Option ((Int)⊕(Jx (Unit) (Bool))) :=
 (bif (decide (s1<(s1'.length:Int))) then
  (at? s1' s1).bind λx1=>
  (at? s2' s1).bind λx2=>
  (eq x1 x2).bind λx3=>
  (bif (!x3) then
   some (.inr (.ret false))
  else
   some (.inl (w64 (s1+1))))
 else
  some (.inr (.go ())))
def ZA (s1':(List Span)) (s2':(List Span)) (eq:Span->Span->Option Bool):Option (Bool) :=
 (bif ((s1'.length:Int) != (s2'.length:Int)) then
  some false
 else
  (loopO (ZA.s0 s1' s2' eq) 0).bind λ(y1:Jx (Unit) (Bool))=>
  y1.elim (λr'=>
    some r') λa2=>
  some true)
def Z5v (l:(List Span)):Bool :=
 (decide ((l.length:Int)>0))
def Z4H (f:Form):Option (Bool) :=
 (Ze f.Core (λz0=>some (Z5v z0))).bind λx1=>
 some (!x1)
def Z0D.s0 (p1':Int) {S:Type} (yield:S->Int->Option (S×Bool)) (s1:Int×S):Option ((Int×S)⊕(Jx (S) (S))) :=
 (bif (decide (s1.1<=p1')) then
  (nz? s1.1).bind λu1=>
  (
   (bif ((p1'.tmod s1.1)==0) then
    (yield s1.2 s1.1).bind λx1=>
    some ((!x1.2),x1.1)
   else
    some (false,s1.2))).bind λ(y2:Bool×S)=>
  (bif y2.1 then
   some (.inr (.ret y2.2))
  else
   some (.inl ((w64 (s1.1+1)),y2.2)))
 else
  some (.inr (.go s1.2)))
def Z0D {S:Type} (p1':Int) (yield:S->Int->Option (S×Bool)) (st':S):Option (S) :=
 (loopO (Z0D.s0 p1' yield) (1,st')).bind λ(y1:Jx (S) (S))=>
 y1.elim (λr'=>
   some r') λa2=>
 some a2
def Z1u (x':Span) (y:Span) (p2':Int):Bool :=
 (((w64 (y.From-x'.From))==p2')&&((w64 (y.To-x'.To))==p2'))
def Z2o (a:(List Span)) (b:(List Span)) (by':Int):Option (Bool) :=
 (ZA a b (λz0 z1=>some (Z1u z0 z1 by'))).bind λx1=>
 some x1
def Z19.s0 (f:Form) (d:Int) (by':Int) (s1:Int):Option ((Int)⊕(Jx (Unit) (Bool))) :=
 (bif (decide (s1<(f.Core.length:Int))) then
  (
   (
    (at? f.Core s1).bind λx1=>
    (
     (bif (decide ((w64 (s1+d))>=f.Count)) then
      some ((w64 ((w64 (s1+d))-f.Count)),f.Period)
     else
      some ((w64 (s1+d)),0))).bind λ(y4:Int×Int)=>
    (at? f.Core y4.1).bind λx2=>
    (Z2o x1 x2 (w64 (by'-y4.2))).bind λx3=>
    (bif (!x3) then
     some (.ret false)
    else
     some (.go ()))).bind λ(y3:Jx (Unit) (Bool))=>
   y3.elim (λr'=>
     some (.ret r')) λa4=>
   some (.go ())).bind λ(y2:Jx (Unit) (Bool))=>
  y2.elim (λr'=>
    some (.inr (.ret r'))) λa5=>
  some (.inl (w64 (s1+1)))
 else
  some (.inr (.go ())))
def Z19 (f:Form) (d:Int) (by':Int):Option (Bool) :=
 (loopO (Z19.s0 f d by') 0).bind λ(y1:Jx (Unit) (Bool))=>
 y1.elim (λr'=>
   some r') λa6=>
 some true
def Z01.s1 (x4:(List (List Span))) (s3:Int×(List (List Span))):Option ((Int×(List (List Span)))⊕((List (List Span)))) :=
 (bif (decide (s3.1<(x4.length:Int))) then
  (at? x4 s3.1).bind λx5=>
  (clone? 16 x5).bind λx6=>
  (app? 24 s3.2 [x6]).bind λx7=>
  some (.inl ((w64 (s3.1+1)),x7))
 else
  some (.inr s3.2))
def Z01.b0 (f:Form) (s2:(List (List Span))×Int×Int) (z2:Int):Option (((List (List Span))×Int×Int)×Nat) :=
 (nz? z2).bind λu1=>
 (Z1D f.Period (w64 (f.Count.tdiv z2))).bind λx2=>
 (
  (bif (x2.2.1 != 0) then
   some true
  else
   (Z19 f z2 x2.1).bind λx3=>
   some (!x3))).bind λ(y3:Bool)=>
 (bif y3 then
  some ((s2.1,s2.2.1,s2.2.2),0)
 else
  (cut? f.Core 0 z2).bind λx4=>
  (loopO (Z01.s1 x4) (0,s2.1)).bind λ(y4:(List (List Span)))=>
  some ((y4,x2.1,z2),1))
def Z01 (f:Form):Option (Form) :=
 (Z4H f).bind λx1=>
 (bif x1 then
  some (Form.mk 0 0 [] [])
 else
  (
   (Z0D f.Count (Z4Q (Z01.b0 f)) (([],0,0),0)).bind λ(y2:((List (List Span))×Int×Int)×Nat)=>
   (bif (y2.2==0) then
    some (y2.1.1,y2.1.2.1,y2.1.2.2)
   else
    some (y2.1.1,y2.1.2.1,y2.1.2.2))).bind λ(y1:(List (List Span))×Int×Int)=>
  some (Form.mk y1.2.1 y1.2.2 y1.1 []))
def Z3m (f:Form) (g:Granule):Option (Bool) :=
 (Z2b f g.Index).bind λx1=>
 (
  (bif (x1.2==0) then
   (Z4L x1.1 g.Ticks).bind λx2=>
   some x2
  else
   some false)).bind λ(y1:Bool)=>
 some y1
def Z0q.s0 (f:Form) (x1:Form) (s2:Int×(List Granule)):Option ((Int×(List Granule))⊕((List Granule))) :=
 (bif (decide (s2.1<(f.Odd.length:Int))) then
  (
   (
    (at? f.Odd s2.1).bind λx2=>
    (Z3m x1 x2).bind λx3=>
    (bif (!x3) then
     (clone? 16 x2.Ticks).bind λx4=>
     (app? 32 s2.2 [(Granule.mk x2.Index x4)]).bind λx5=>
     some x5
    else
     some s2.2)).bind λ(y3:(List Granule))=>
   some y3).bind λ(y2:(List Granule))=>
  some (.inl ((w64 (s2.1+1)),y2))
 else
  some (.inr s2.2))
def Z0q (f:Form):Option (Form) :=
 (Z01 f).bind λx1=>
 (loopO (Z0q.s0 f x1) (0,[])).bind λ(y1:(List Granule))=>
 some (Form.mk x1.Period x1.Count x1.Core y1)
def Z3N (a:Int) (b:Int):Option (Int×Int) :=
 (nz? b).bind λu1=>
 (nz? b).bind λu2=>
 (
  (bif (decide ((a.tmod b)<0)) then
   some ((w64 ((w64 (a.tdiv b))-1)),(w64 ((a.tmod b)+b)))
  else
   some ((w64 (a.tdiv b)),(a.tmod b)))).bind λ(y1:Int×Int)=>
 some (y1.1,y1.2)
def ZO (a:Bound):Bool :=
 ((a.Inf==0)||(((a.Inf==1)||(a.Inf==(-1)))&&(a.N==0)))
def Z3p (k:Int):Bool :=
 ((decide (k>=(-1099511627776)))&&(decide (k<=1099511627776)))
def Z1f (l:(List Span)):Option (Span×Bool) :=
 (bif ((l.length:Int)==0) then
  some ((Span.mk 0 0),false)
 else
  (at? l 0).bind λx1=>
  (at? l (w64 ((l.length:Int)-1))).bind λx2=>
  some ((Span.mk x1.From x2.To),true))
def Z2I.s0 (x1:Form) (s2:Int×(List size_spot)):Option ((Int×(List size_spot))⊕((List size_spot))) :=
 (bif (decide (s2.1<(x1.Core.length:Int))) then
  (
   (
    (at? x1.Core s2.1).bind λx2=>
    (Z1f x2).bind λx3=>
    (bif x3.2 then
     (app? 24 s2.2 [(size_spot.mk s2.1 (size_place.mk x3.1.From x3.1.To))]).bind λx4=>
     some x4
    else
     some s2.2)).bind λ(y3:(List size_spot))=>
   some y3).bind λ(y2:(List size_spot))=>
  some (.inl ((w64 (s2.1+1)),y2))
 else
  some (.inr s2.2))
def Z2I (f:Form):Option (size_form) :=
 (Z0q f).bind λx1=>
 (loopO (Z2I.s0 x1) (0,[])).bind λ(y1:(List size_spot))=>
 some (size_form.mk x1 y1)
def Z0f.s0 (f:Int->Option Bool) (s1:Int×Int):Option ((Int×Int)⊕(Int)) :=
 (bif (decide (s1.1<s1.2)) then
  (
   (f (w64 ((IntKind.u64.wrap (w64 (s1.1+s1.2))).fdiv (2 ^ 1)))).bind λx1=>
   (bif (!x1) then
    some ((w64 ((w64 ((IntKind.u64.wrap (w64 (s1.1+s1.2))).fdiv (2 ^ 1)))+1)),s1.2)
   else
    some (s1.1,(w64 ((IntKind.u64.wrap (w64 (s1.1+s1.2))).fdiv (2 ^ 1)))))).bind λ(y2:Int×Int)=>
  some (.inl (y2.1,y2.2))
 else
  some (.inr s1.1))
def Z0f (n:Int) (f:Int->Option Bool):Option (Int) :=
 (loopO (Z0f.s0 f) (0,n)).bind λ(y1:Int)=>
 some y1
def Z2K (n:Int) (p1':size_form) (p2':Int) (p3':Int):Option (Bool) :=
 (at? p1'.spots n).bind λx1=>
 some (decide ((w64 (x1.place.last-(w64 (p2'*p1'.Form.Period))))>=p3'))
def Z2G (n:Int) (p1':size_form) (p2':Int) (p3':Int):Option (Bool) :=
 (at? p1'.spots n).bind λx1=>
 some (decide ((w64 (x1.place.first+(w64 (p2'*p1'.Form.Period))))>p3'))
def Z0V (f:size_form) (t:Int) (up:Bool):Option (Int) :=
 (bif up then
  (at? f.spots (w64 ((f.spots.length:Int)-1))).bind λx1=>
  (Z1D (w64 (x1.place.last-t)) f.Form.Period).bind λx2=>
  (Z0f (f.spots.length:Int) (λz0=>Z2K z0 f x2.1 t)).bind λx3=>
  (at? f.spots x3).bind λx4=>
  some (w64 (x4.index-(w64 (x2.1*f.Form.Count))))
 else
  (at? f.spots 0).bind λx5=>
  (Z1D (w64 (t-x5.place.first)) f.Form.Period).bind λx6=>
  (Z0f (f.spots.length:Int) (λz0=>Z2G z0 f x6.1 t)).bind λx7=>
  (at? f.spots (w64 (x7-1))).bind λx8=>
  some (w64 (x8.index+(w64 (x6.1*f.Form.Count)))))
def Z3P (g:Granule) (i:Int):Int :=
 (Z2X g.Index i)
def Z2s (f:size_form) (i:Int):Option (Int) :=
 (Z2 f.Form.Odd i (λz0 z1=>some (Z3P z0 z1))).bind λx1=>
 (bif (!x1.2) then
  some (-1)
 else
  some x1.1)
def Z3T (f:size_form) (i:Int):Option (Bool) :=
 (Z1D i f.Form.Count).bind λx1=>
 (at? f.Form.Core x1.2.1).bind λx2=>
 some (decide ((x2.length:Int)>0))
def Z6.s0 (f:size_form) (y1:Int) (s1:Int):Option ((Int)⊕(Int)) :=
 (Z2s f s1).bind λx2=>
 (
  (bif (decide (x2>=0)) then
   some true
  else
   (Z3T f s1).bind λx3=>
   some (!x3))).bind λ(y4:Bool)=>
 (bif y4 then
  some (.inl (w64 (s1+y1)))
 else
  some (.inr s1))
def Z6.s1 (s2:Int×Int×(List Int)×Int×Bool):Option ((Int×Int×(List Int)×Int×Bool)⊕((List Int)×Int×Bool)) :=
 (bif (decide (s2.2.1<s2.1)) then
  (
   (
    (at? s2.2.2.1 s2.2.1).bind λx4=>
    (bif ((!s2.2.2.2.2)||(decide (x4>s2.2.2.2.1))) then
     some (x4,true)
    else
     some (s2.2.2.2.1,s2.2.2.2.2))).bind λ(y8:Int×Bool)=>
   some (y8.1,y8.2)).bind λ(y7:Int×Bool)=>
  some (.inl (s2.1,(w64 (s2.2.1+1)),s2.2.2.1,y7.1,y7.2))
 else
  some (.inr (s2.2.2.1,s2.2.2.2.1,s2.2.2.2.2)))
def Z6.s3 (s4:Int×Int×(List Int)×Int×Bool):Option ((Int×Int×(List Int)×Int×Bool)⊕((List Int)×Int×Bool)) :=
 (bif (decide (s4.2.1<s4.1)) then
  (
   (
    (at? s4.2.2.1 s4.2.1).bind λx7=>
    (bif ((!s4.2.2.2.2)||(decide (x7>s4.2.2.2.1))) then
     some (x7,true)
    else
     some (s4.2.2.2.1,s4.2.2.2.2))).bind λ(y15:Int×Bool)=>
   some (y15.1,y15.2)).bind λ(y14:Int×Bool)=>
  some (.inl (s4.1,(w64 (s4.2.1+1)),s4.2.2.1,y14.1,y14.2))
 else
  some (.inr (s4.2.2.1,s4.2.2.2.1,s4.2.2.2.2)))
def Z6.s2 (f:size_form) (t:Int) (up:Bool) (y1:Int) (s3:Int×Int×Bool):Option ((Int×Int×Bool)⊕(Int×Bool)) :=
 (bif (decide (s3.1<(f.Form.Odd.length:Int))) then
  (
   (
    (at? f.Form.Odd s3.1).bind λx5=>
    (Z1f x5.Ticks).bind λx6=>
    (bif (x6.2&&((up&&(decide (x6.1.To>=t)))||((!up)&&(decide (x6.1.From<=t))))) then
     (
      (loopO (Z6.s3) (([(w64 ((w64 (0-y1))*x5.Index))].length:Int),0,[(w64 ((w64 (0-y1))*x5.Index))],s3.2.1,s3.2.2)).bind λ(y13:(List Int)×Int×Bool)=>
      some (y13.1,y13.2.1,y13.2.2)).bind λ(y12:(List Int)×Int×Bool)=>
     some (y12.2.1,y12.2.2)
    else
     some (s3.2.1,s3.2.2))).bind λ(y11:Int×Bool)=>
   some (y11.1,y11.2)).bind λ(y10:Int×Bool)=>
  some (.inl ((w64 (s3.1+1)),y10.1,y10.2))
 else
  some (.inr (s3.2.1,s3.2.2)))
def Z6 (f:size_form) (t:Int) (up:Bool):Option (Int×Bool) :=
 (
  (bif up then
   some 1
  else
   some (-1))).bind λ(y1:Int)=>
 (
  (bif (decide (f.Form.Count>0)) then
   (Z0V f t up).bind λx1=>
   (loopO (Z6.s0 f y1) x1).bind λ(y3:Int)=>
   (
    (loopO (Z6.s1) (([(w64 ((w64 (0-y1))*y3))].length:Int),0,[(w64 ((w64 (0-y1))*y3))],0,false)).bind λ(y6:(List Int)×Int×Bool)=>
    some (y6.1,y6.2.1,y6.2.2)).bind λ(y5:(List Int)×Int×Bool)=>
   some (y5.2.1,y5.2.2)
  else
   some (0,false))).bind λ(y2:Int×Bool)=>
 (loopO (Z6.s2 f t up y1) (0,y2.1,y2.2)).bind λ(y9:Int×Bool)=>
 some ((w64 ((w64 (0-y1))*y9.1)),y9.2)
def ZU.s1 (s2:Int×Int×(List Int)×Int×Bool):Option ((Int×Int×(List Int)×Int×Bool)⊕((List Int)×Int×Bool)) :=
 (bif (decide (s2.2.1<s2.1)) then
  (
   (
    (at? s2.2.2.1 s2.2.1).bind λx4=>
    (bif ((!s2.2.2.2.2)||(decide (x4>s2.2.2.2.1))) then
     some (x4,true)
    else
     some (s2.2.2.2.1,s2.2.2.2.2))).bind λ(y9:Int×Bool)=>
   some (y9.1,y9.2)).bind λ(y8:Int×Bool)=>
  some (.inl (s2.1,(w64 (s2.2.1+1)),s2.2.2.1,y8.1,y8.2))
 else
  some (.inr (s2.2.2.1,s2.2.2.2.1,s2.2.2.2.2)))
def ZU.s0 (d:Int) (up:Bool) (x1:size_form) (y1:Int) (s1:Int×Int×Bool):Option ((Int×Int×Bool)⊕(Int×Bool)) :=
 (bif (decide (s1.1<(x1.spots.length:Int))) then
  (
   (
    (at? x1.spots s1.1).bind λx2=>
    (
     (bif up then
      some x2.place.first
     else
      some x2.place.last)).bind λ(y5:Int)=>
    (Z0V x1 (w64 (y5+d)) up).bind λx3=>
    (
     (loopO (ZU.s1) (([(w64 (y1*(w64 (x3-x2.index))))].length:Int),0,[(w64 (y1*(w64 (x3-x2.index))))],s1.2.1,s1.2.2)).bind λ(y7:(List Int)×Int×Bool)=>
     some (y7.1,y7.2.1,y7.2.2)).bind λ(y6:(List Int)×Int×Bool)=>
    some (y6.2.1,y6.2.2)).bind λ(y4:Int×Bool)=>
   some (y4.1,y4.2)).bind λ(y3:Int×Bool)=>
  some (.inl ((w64 (s1.1+1)),y3.1,y3.2))
 else
  some (.inr (s1.2.1,s1.2.2)))
def ZU.s3 (s4:Int×Int×(List Int)×Int×Bool):Option ((Int×Int×(List Int)×Int×Bool)⊕((List Int)×Int×Bool)) :=
 (bif (decide (s4.2.1<s4.1)) then
  (
   (
    (at? s4.2.2.1 s4.2.1).bind λx8=>
    (bif ((!s4.2.2.2.2)||(decide (x8>s4.2.2.2.1))) then
     some (x8,true)
    else
     some (s4.2.2.2.1,s4.2.2.2.2))).bind λ(y18:Int×Bool)=>
   some (y18.1,y18.2)).bind λ(y17:Int×Bool)=>
  some (.inl (s4.1,(w64 (s4.2.1+1)),s4.2.2.1,y17.1,y17.2))
 else
  some (.inr (s4.2.2.1,s4.2.2.2.1,s4.2.2.2.2)))
def ZU.s4 (s5:Int×Int×(List Int)×Int×Bool):Option ((Int×Int×(List Int)×Int×Bool)⊕((List Int)×Int×Bool)) :=
 (bif (decide (s5.2.1<s5.1)) then
  (
   (
    (at? s5.2.2.1 s5.2.1).bind λx10=>
    (bif ((!s5.2.2.2.2)||(decide (x10>s5.2.2.2.1))) then
     some (x10,true)
    else
     some (s5.2.2.2.1,s5.2.2.2.2))).bind λ(y22:Int×Bool)=>
   some (y22.1,y22.2)).bind λ(y21:Int×Bool)=>
  some (.inl (s5.1,(w64 (s5.2.1+1)),s5.2.2.1,y21.1,y21.2))
 else
  some (.inr (s5.2.2.1,s5.2.2.2.1,s5.2.2.2.2)))
def ZU.s2 (d:Int) (up:Bool) (x1:size_form) (y1:Int) (s3:Int×Int×Bool):Option ((Int×Int×Bool)⊕(Int×Bool)) :=
 (bif (decide (s3.1<(x1.Form.Odd.length:Int))) then
  (
   (
    (at? x1.Form.Odd s3.1).bind λx5=>
    (Z1f x5.Ticks).bind λx6=>
    (bif (!x6.2) then
     some (.ret ())
    else
     (
      (bif up then
       some (x6.1.To,x6.1.From)
      else
       some (x6.1.From,x6.1.To))).bind λ(y13:Int×Int)=>
     (
      (Z6 x1 (w64 (y13.2+d)) up).bind λx7=>
      (bif x7.2 then
       (
        (loopO (ZU.s3) (([(w64 (y1*(w64 (x7.1-x5.Index))))].length:Int),0,[(w64 (y1*(w64 (x7.1-x5.Index))))],s3.2.1,s3.2.2)).bind λ(y16:(List Int)×Int×Bool)=>
        some (y16.1,y16.2.1,y16.2.2)).bind λ(y15:(List Int)×Int×Bool)=>
       some (y15.2.1,y15.2.2)
      else
       some (s3.2.1,s3.2.2))).bind λ(y14:Int×Bool)=>
     (Z6 x1 (w64 (y13.1-d)) (!up)).bind λx9=>
     (bif x9.2 then
      (
       (loopO (ZU.s4) (([(w64 (y1*(w64 (x5.Index-x9.1))))].length:Int),0,[(w64 (y1*(w64 (x5.Index-x9.1))))],y14.1,y14.2)).bind λ(y20:(List Int)×Int×Bool)=>
       some (y20.1,y20.2.1,y20.2.2)).bind λ(y19:(List Int)×Int×Bool)=>
      some (.go (y19.2.1,y19.2.2))
     else
      some (.go (y14.1,y14.2))))).bind λ(y12:Jx (Int×Bool) (Unit))=>
   y12.elim (λa4=>
     some (s3.2.1,s3.2.2)) λa3=>
   some (a3.1,a3.2)).bind λ(y11:Int×Bool)=>
  some (.inl ((w64 (s3.1+1)),y11.1,y11.2))
 else
  some (.inr (s3.2.1,s3.2.2)))
def ZU (g:Form) (d:Int) (up:Bool):Option (Int×Bool×Int) :=
 (bif (!(Z3p d)) then
  some (0,false,2)
 else
  (Z2I g).bind λx1=>
  (
   (bif up then
    some (-1)
   else
    some 1)).bind λ(y1:Int)=>
  (loopO (ZU.s0 d up x1 y1) (0,0,false)).bind λ(y2:Int×Bool)=>
  (loopO (ZU.s2 d up x1 y1) (0,y2.1,y2.2)).bind λ(y10:Int×Bool)=>
  some ((w64 (y1*y10.1)),y10.2,0))
def Z4Y (f:Form) (d:Int):Option (Int×Bool×Int) :=
 (ZU f d false).bind λx1=>
 some (x1.1,x1.2.1,x1.2.2)
def Z7w (f:Form) (d:Int):Option (Int×Bool×Int) :=
 (ZU f d true).bind λx1=>
 some (x1.1,x1.2.1,x1.2.2)
def Z2C (f:Form) (low:Bound) (high:Bound):Option (Range×Bool×Int) :=
 (bif ((((!(ZO low))||(!(ZO high)))||(low.Inf==1))||(high.Inf==(-1))) then
  some ((Range.mk 0 0 false false),false,2)
 else
  (
   (bif ((high.Inf==0)&&(decide (high.N<=1099511627776))) then
    (Z4Y f (iMax high.N (-1099511627776))).bind λx1=>
    (bif (!x1.2.1) then
     some (.ret ((Range.mk 0 0 false false),false,0))
    else
     some (.go (x1.1,true)))
   else
    some (.go (0,false)))).bind λ(y1:Jx (Int×Bool) (Range×Bool×Int))=>
  y1.elim (λr'=>
    some r') λa2=>
  (
   (bif ((low.Inf==0)&&(decide (low.N>=(-1099511627776)))) then
    (Z7w f (iMin low.N 1099511627776)).bind λx2=>
    (bif (!x2.2.1) then
     some (.ret ((Range.mk 0 0 false false),false,0))
    else
     some (.go (x2.1,true)))
   else
    some (.go (0,false)))).bind λ(y2:Jx (Int×Bool) (Range×Bool×Int))=>
  y2.elim (λr'=>
    some r') λa4=>
  some ((Range.mk a4.1 a2.1 a4.2 a2.2),true,0))
def Z0x (a:carry_asked) (gap:Int):Option (Bool) :=
 (Z4Y a.f (w64 (gap-1099511627776))).bind λx1=>
 some ((x1.2.1&&(x1.2.2==0))&&(decide (x1.1>=a.m)))
def Z36 (f:Form) (m:Int):Option (Bound) :=
 (Z0f 2199023255553 (λz0=>Z0x (carry_asked.mk f (iMin (iMax m (-4611686018427387904)) 4611686018427387904)) z0)).bind λx1=>
 (bif ((w64 ((iMin x1 2199023255552)-1099511627776))==(-1099511627776)) then
  some (Bound.mk (-1) 0)
 else
  some (Bound.mk 0 (w64 ((iMin x1 2199023255552)-1099511627776))))
def Z13 (a:Int) (b:Int):Int×Int :=
 (bif (((decide ((w64 (a-b))<a)) != (decide (b>0)))&&(b != 0)) then
  (0,10)
 else
  ((w64 (a-b)),0))
def Z8 (a:Bound):Bound×Int :=
 (bif (!(ZO a)) then
  ((Bound.mk 0 0),2)
 else
  (bif (((Z13 0 a.N).2) != 0) then
   ((Bound.mk 0 0),(Z13 0 a.N).2)
  else
   ((Bound.mk (IntKind.i8.wrap (0-a.Inf)) ((Z13 0 a.N).1)),0)))
def Z3H (f:Form) (n:Int):Option (Bound) :=
 (Z36 f (w64 (0-(iMax n (-4611686018427387904))))).bind λx1=>
 some ((Z8 x1).1)
def Z0j (a:Bound) (b:Bound):Bool :=
 (bif ((!(ZO a))||(!(ZO b))) then
  false
 else
  (bif (a.Inf != b.Inf) then
   (decide (a.Inf<b.Inf))
  else
   (decide (a.N<b.N))))
def ZW.s0 (f:Form) (s1:Int):Option ((Int)⊕(Jx (Unit) (Bool))) :=
 (bif (decide (s1<(f.Core.length:Int))) then
  (at? f.Core s1).bind λx3=>
  (Z1f x3).bind λx4=>
  (bif (x4.2&&((decide (x4.1.From<(-100)))||(decide (x4.1.To>100)))) then
   some (.inr (.ret false))
  else
   some (.inl (w64 (s1+1))))
 else
  some (.inr (.go ())))
def ZW.s1 (f:Form) (s2:Int):Option ((Int)⊕(Jx (Unit) (Bool))) :=
 (bif (decide (s2<(f.Odd.length:Int))) then
  (at? f.Odd s2).bind λx5=>
  (bif ((decide (x5.Index<(-100)))||(decide (x5.Index>100))) then
   some (.inr (.ret false))
  else
   some (.inl (w64 (s2+1))))
 else
  some (.inr (.go ())))
def ZW (f:Form):Option (Bool) :=
 (Z32 f).bind λx1=>
 (
  (bif (!x1) then
   some true
  else
   (Z09 f).bind λx2=>
   some (x2 != 0))).bind λ(y1:Bool)=>
 (bif (y1||(decide (f.Period>200))) then
  some false
 else
  (loopO (ZW.s0 f) 0).bind λ(y2:Jx (Unit) (Bool))=>
  y2.elim (λr'=>
    some r') λa2=>
  (loopO (ZW.s1 f) 0).bind λ(y3:Jx (Unit) (Bool))=>
  y3.elim (λr'=>
    some r') λa4=>
  some true)
def Z0c.s0 (f:Form) (i:Int) (s1:Int):Option ((Int)⊕(Jx (Unit) ((List Span)×Int))) :=
 (bif (decide (s1<(f.Odd.length:Int))) then
  (at? f.Odd s1).bind λx1=>
  (bif (x1.Index==i) then
   (at? f.Odd s1).bind λx2=>
   some (.inr (.ret (x2.Ticks,0)))
  else
   some (.inl (w64 (s1+1))))
 else
  some (.inr (.go ())))
def Z0c (f:Form) (i:Int):Option ((List Span)×Int) :=
 (loopO (Z0c.s0 f i) 0).bind λ(y1:Jx (Unit) ((List Span)×Int))=>
 y1.elim (λr'=>
   some r') λa2=>
 (bif (f.Count==0) then
  some ([],0)
 else
  (Z3N i f.Count).bind λx3=>
  (at? f.Core x3.2).bind λx4=>
  some (x4,x3.1))
def Z0s.s0 (l:(List Span)) (by':Int) (s2:Int×(List Span)):Option ((Int×(List Span))⊕(Jx ((List Span)) ((List Span)×Int))) :=
 (bif (decide (s2.1<(l.length:Int))) then
  (at? l s2.1).bind λx1=>
  (
   (bif (decide (by'>(w64 (1099511627776-x1.To)))) then
    some true
   else
    (at? l s2.1).bind λx2=>
    some (decide (by'<(w64 ((-1099511627776)-x2.From)))))).bind λ(y2:Bool)=>
  (bif y2 then
   some (.inr (.ret ([],20)))
  else
   (at? l s2.1).bind λx3=>
   (at? l s2.1).bind λx4=>
   (app? 16 s2.2 [(Span.mk (w64 (x3.From+by')) (w64 (x4.To+by')))]).bind λx5=>
   some (.inl ((w64 (s2.1+1)),x5)))
 else
  some (.inr (.go s2.2)))
def Z0s (l:(List Span)) (by':Int):Option ((List Span)×Int) :=
 (loopO (Z0s.s0 l by') (0,[])).bind λ(y1:Jx ((List Span)) ((List Span)×Int))=>
 y1.elim (λr'=>
   some r') λa2=>
 some (a2,0)
def Z34 (f:Form) (i:Int):Option ((List Span)×Int) :=
 (bif ((decide (i<(-1099511627776)))||(decide (i>1099511627776))) then
  some ([],20)
 else
  (Z0c f i).bind λx1=>
  (bif (((x1.1.length:Int)==0)||(x1.2==0)) then
   (app? 16 [] x1.1).bind λx2=>
   some (x2,0)
  else
   (nz? f.Period).bind λu1=>
   (
    (bif (decide (x1.2>(w64 ((w64 ((2199023255552:Int).tdiv f.Period))+1)))) then
     some true
    else
     (nz? f.Period).bind λu2=>
     some (decide (x1.2<(w64 ((w64 ((-2199023255552).tdiv f.Period))-1)))))).bind λ(y1:Bool)=>
   (bif y1 then
    some ([],20)
   else
    (Z0s x1.1 (w64 (x1.2*f.Period))).bind λx3=>
    some (x3.1,x3.2))))
def Z0L.s0 (f:Form) (to':Int) (s1:Int):Option ((Int)⊕(Jx (Unit) ((List Span)×Bool))) :=
 (bif (decide (s1<=to')) then
  (Z34 f s1).bind λx1=>
  (bif ((x1.2==0)&&(decide ((x1.1.length:Int)>0))) then
   some (.inr (.ret (x1.1,true)))
  else
   some (.inl (w64 (s1+1))))
 else
  some (.inr (.go ())))
def Z0L (f:Form) (i:Int) (to':Int):Option ((List Span)×Bool) :=
 (loopO (Z0L.s0 f to') i).bind λ(y1:Jx (Unit) ((List Span)×Bool))=>
 y1.elim (λr'=>
   some r') λa2=>
 some ([],false)
def Z18.s0 (f:Form) (m:Int) (s1:Int×Bool×Int):Option ((Int×Bool×Int)⊕(Int×Bool)) :=
 (bif (decide (s1.2.2<=600)) then
  (
   (
    (Z34 f s1.2.2).bind λx1=>
    (bif ((x1.2 != 0)||((x1.1.length:Int)==0)) then
     some (.ret ())
    else
     (Z0L f (w64 (s1.2.2+m)) (iMax (w64 ((w64 (s1.2.2+m))+30)) 130)).bind λx2=>
     (bif (!x2.2) then
      some (.ret ())
     else
      (at? x2.1 0).bind λx3=>
      (at? x1.1 (w64 ((x1.1.length:Int)-1))).bind λx4=>
      (bif ((!s1.2.1)||(decide ((w64 (x3.From-x4.To))<s1.1))) then
       some (.go ((w64 (x3.From-x4.To)),true))
      else
       some (.go (s1.1,s1.2.1)))))).bind λ(y3:Jx (Int×Bool) (Unit))=>
   y3.elim (λa4=>
     some (s1.1,s1.2.1)) λa3=>
   some (a3.1,a3.2)).bind λ(y2:Int×Bool)=>
  some (.inl (y2.1,y2.2,(w64 (s1.2.2+1))))
 else
  some (.inr (s1.1,s1.2.1)))
def Z18 (f:Form) (m:Int):Option (Int×Bool) :=
 (loopO (Z18.s0 f m) (0,false,(-600))).bind λ(y1:Int×Bool)=>
 some (y1.1,y1.2)
def Z16 (f:Form) (m:Int):Option (Bound) :=
 (Z18 f m).bind λx1=>
 (bif ((!x1.2)||(decide (x1.1>1099511627776))) then
  some (Bound.mk 0 1099511627776)
 else
  (bif (decide (x1.1<=(-1099511627776))) then
   some (Bound.mk (-1) 0)
  else
   some (Bound.mk 0 x1.1)))
def Z1V (f:Form) (n:Int):Option (Bound) :=
 (Z16 f (w64 (0-n))).bind λx1=>
 some (Bound.mk (IntKind.i8.wrap (0-x1.Inf)) (w64 (0-x1.N)))
def Z3e (f:Form) (r':Range):Option (Bound×Bound) :=
 (
  (bif r'.HasLow then
   (Z36 f r'.Low).bind λx1=>
   some (x1.Inf,x1.N)
  else
   some ((-1),0))).bind λ(y1:Int×Int)=>
 (
  (bif r'.HasHigh then
   (Z3H f r'.High).bind λx2=>
   some (x2.Inf,x2.N)
  else
   some (1,0))).bind λ(y2:Int×Int)=>
 some ((Bound.mk y1.1 y1.2),(Bound.mk y2.1 y2.2))
def Z0K (a:Bound) (b:Bound):Bound×Int :=
 (bif ((!(ZO a))||(!(ZO b))) then
  ((Bound.mk 0 0),2)
 else
  (bif (((a.Inf != 0)&&(b.Inf != 0))&&(a.Inf != b.Inf)) then
   ((Bound.mk 0 0),10)
  else
   (bif (a.Inf != 0) then
    (a,0)
   else
    (bif (b.Inf != 0) then
     (b,0)
    else
     ((Bound.mk 0 ((Zc a.N b.N).1)),(Zc a.N b.N).2)))))
def find_up_1 (h':Span) (t:Int) (period:Int):Option (Int) :=
 (Z1D (w64 (h'.To-t)) period).bind λx1=>
 some (w64 (0-x1.1))
def Z0w.s0 (f:Form) (t:Int) (s1:Int×Bool×Int):Option ((Int×Bool×Int)⊕(Int×Bool)) :=
 (bif (decide (s1.2.2<(f.Core.length:Int))) then
  (
   (
    (at? f.Core s1.2.2).bind λx1=>
    (Z1f x1).bind λx2=>
    (bif (!x2.2) then
     some (.ret ())
    else
     (find_up_1 x2.1 t f.Period).bind λx3=>
     (bif ((!s1.2.1)||(decide ((w64 ((w64 ((w64 ((w64 (x3*f.Count))+s1.2.2))-s1.1))*1))<0))) then
      some (.go ((w64 ((w64 (x3*f.Count))+s1.2.2)),true))
     else
      some (.go (s1.1,s1.2.1))))).bind λ(y3:Jx (Int×Bool) (Unit))=>
   y3.elim (λa4=>
     some (s1.1,s1.2.1)) λa3=>
   some (a3.1,a3.2)).bind λ(y2:Int×Bool)=>
  some (.inl (y2.1,y2.2,(w64 (s1.2.2+1))))
 else
  some (.inr (s1.1,s1.2.1)))
def Z0w (f:Form) (t:Int):Option (Int×Bool) :=
 (loopO (Z0w.s0 f t) (0,false,0)).bind λ(y1:Int×Bool)=>
 some (y1.1,y1.2)
def Z06.s0 (f:Form) (s1:Int×(List (Int×Int))):Option ((Int×(List (Int×Int)))⊕((List (Int×Int)))) :=
 (bif (decide (s1.1<(f.Odd.length:Int))) then
  (at? f.Odd s1.1).bind λx2=>
  some (.inl ((w64 (s1.1+1)),(mput s1.2 x2.Index (w64 ((mget s1.2 x2.Index)+1)))))
 else
  some (.inr s1.2))
def Z06.s1 (f:Form) (y1:(List (Int×Int))) (s2:Int×Bool×Int):Option ((Int×Bool×Int)⊕(Jx (Unit) (Int×Bool))) :=
 (bif (s2.2.1&&(decide (s2.2.2<2))) then
  (
   (
    (Z2b (Form.mk f.Period f.Count f.Core []) s2.1).bind λx4=>
    (bif (x4.2 != 0) then
     some (.go (w64 (s2.2.2+1)))
    else
     (bif ((mget y1 s2.1)==0) then
      some (.ret (s2.1,true))
     else
      some (.go s2.2.2)))).bind λ(y4:Jx (Int) (Int×Bool))=>
   y4.elim (λr'=>
     some (.ret r')) λa4=>
   some (.go a4)).bind λ(y3:Jx (Int) (Int×Bool))=>
  y3.elim (λr'=>
    some (.inr (.ret r'))) λa5=>
  (Z2B (Form.mk f.Period f.Count f.Core []) s2.1).bind λx5=>
  some (.inl (x5.1,x5.2,a5))
 else
  some (.inr (.go ())))
def Z06 (f:Form) (t:Int):Option (Int×Bool) :=
 (Z0w f t).bind λx1=>
 (bif (!x1.2) then
  some (0,false)
 else
  (loopO (Z06.s0 f) (0,[])).bind λ(y1:(List (Int×Int)))=>
  (Z2B (Form.mk f.Period f.Count f.Core []) (w64 (x1.1-1))).bind λx3=>
  (loopO (Z06.s1 f y1) (x3.1,x3.2,0)).bind λ(y2:Jx (Unit) (Int×Bool))=>
  y2.elim (λr'=>
    some r') λa6=>
  some (0,false))
def find_up_2 (h':Span) (t:Int):Bool :=
 (decide (h'.To>=t))
def Z0o.s0 (f:Form) (t:Int) (s1:Int×Bool×Int):Option ((Int×Bool×Int)⊕(Int×Bool)) :=
 (bif (decide (s1.2.2<(f.Odd.length:Int))) then
  (
   (
    (at? f.Odd s1.2.2).bind λx2=>
    (Z1f x2.Ticks).bind λx3=>
    (bif ((x3.2&&(find_up_2 x3.1 (iMax (iMin t 1099511627777) (-1099511627777))))&&((!s1.2.1)||(decide ((w64 ((w64 (x2.Index-s1.1))*1))<0)))) then
     some (x2.Index,true)
    else
     some (s1.1,s1.2.1))).bind λ(y3:Int×Bool)=>
   some (y3.1,y3.2)).bind λ(y2:Int×Bool)=>
  some (.inl (y2.1,y2.2,(w64 (s1.2.2+1))))
 else
  some (.inr (s1.1,s1.2.1)))
def Z0o (f:Form) (t:Int):Option (Int×Bool) :=
 (Z06 f (iMax (iMin t 1099511627777) (-1099511627777))).bind λx1=>
 (loopO (Z0o.s0 f t) (x1.1,x1.2,0)).bind λ(y1:Int×Bool)=>
 some (y1.1,y1.2)
def find_From (f:Form) (t:Int):Option (Int×Bool) :=
 (Z0o f t).bind λx1=>
 some (x1.1,x1.2)
def Z0n.s0 (x':(List Span)) (target:Int) (cmp:Span->Int->Option Int) (s1:Int×Int):Option ((Int×Int)⊕(Int)) :=
 (bif (decide (s1.1<s1.2)) then
  (
   (at? x' (w64 ((IntKind.u64.wrap (w64 (s1.1+s1.2))).fdiv (2 ^ 1)))).bind λx1=>
   (cmp x1 target).bind λx2=>
   (bif (decide (x2<0)) then
    some ((w64 ((w64 ((IntKind.u64.wrap (w64 (s1.1+s1.2))).fdiv (2 ^ 1)))+1)),s1.2)
   else
    some (s1.1,(w64 ((IntKind.u64.wrap (w64 (s1.1+s1.2))).fdiv (2 ^ 1)))))).bind λ(y2:Int×Int)=>
  some (.inl (y2.1,y2.2))
 else
  some (.inr s1.1))
def Z0n (x':(List Span)) (target:Int) (cmp:Span->Int->Option Int):Option (Int×Bool) :=
 (loopO (Z0n.s0 x' target cmp) (0,(x'.length:Int))).bind λ(y1:Int)=>
 (
  (bif (decide (y1<(x'.length:Int))) then
   (at? x' y1).bind λx3=>
   (cmp x3 target).bind λx4=>
   some (x4==0)
  else
   some false)).bind λ(y3:Bool)=>
 some (y1,y3)
def spans_Has_1 (s:Span) (t:Int):Int :=
 (bif (decide (s.To<t)) then
  (-1)
 else
  (bif (decide (s.From>t)) then
   1
  else
   0))
def spans_Has (l:(List Span)) (t:Int):Option (Bool) :=
 (Z0n l t (λz0 z1=>some (spans_Has_1 z0 z1))).bind λx1=>
 some (x1.2&&(decide (x1.1<(l.length:Int))))
def find_At (f:Form) (t:Int):Option (Int×Bool) :=
 (find_From f t).bind λx1=>
 (bif (!x1.2) then
  some (0,false)
 else
  (Z2b f x1.1).bind λx2=>
  (spans_Has x2.1 t).bind λx3=>
  (bif (!x3) then
   some (0,false)
  else
   some (x1.1,true)))
def ZBD (f:Form) (a:Int) (b:Int):Option (Int×Bool) :=
 (find_At f a).bind λx1=>
 (bif (!x1.2) then
  some (0,false)
 else
  (find_At f b).bind λx2=>
  (bif (!x2.2) then
   some (0,false)
  else
   some ((w64 (x2.1-x1.1)),true)))
def Z2W.s0 (s:(List Int)) (f:Int->Option Bool) (s1:Int):Option ((Int)⊕(Jx (Unit) (Int))) :=
 (bif (decide (s1<(s.length:Int))) then
  (at? s s1).bind λx1=>
  (f x1).bind λx2=>
  (bif x2 then
   some (.inr (.ret s1))
  else
   some (.inl (w64 (s1+1))))
 else
  some (.inr (.go ())))
def Z2W (s:(List Int)) (f:Int->Option Bool):Option (Int) :=
 (loopO (Z2W.s0 s f) 0).bind λ(y1:Jx (Unit) (Int))=>
 y1.elim (λr'=>
   some r') λa2=>
 some (-1)
def Z5k (s:(List Int)) (f:Int->Option Bool):Option (Bool) :=
 (Z2W s f).bind λx1=>
 some (decide (x1>=0))
def tag_own_1 (t:Int):Bool :=
 ((decide (t<(-1099511627776)))||(decide (t>1099511627776)))
def tag_own (n:Net) (ticks:(List Int)):Option (Bool) :=
 (
  (bif ((ticks.length:Int)==n.Vars) then
   (Z5k ticks (λz0=>some (tag_own_1 z0))).bind λx1=>
   some (!x1)
  else
   some false)).bind λ(y1:Bool)=>
 some y1
def tag_met (n:Net) (c:Con) (ticks:(List Int)):Option (Bool) :=
 (at? n.Forms c.Form).bind λx1=>
 (at? ticks c.X).bind λx2=>
 (at? ticks c.Y).bind λx3=>
 (ZBD x1 x2 x3).bind λx4=>
 (
  (
   (
    (bif (!x4.2) then
     some (!x4.2)
    else
     (bif (c.Range.HasLow&&(decide (x4.1<c.Range.Low))) then
      some (c.Range.HasLow&&(decide (x4.1<c.Range.Low)))
     else
      some (c.Range.HasHigh&&(decide (x4.1>c.Range.High)))))).bind λ(y3:Bool)=>
   (bif y3 then
    some (.ret false)
   else
    some (.go ()))).bind λ(y2:Jx (Unit) (Bool))=>
  y2.elim (λr'=>
    some (.ret r')) λa3=>
  some (.go ())).bind λ(y1:Jx (Unit) (Bool))=>
 y1.elim (λr'=>
   some r') λa4=>
 some true
def Z5M.s0 (p1':Net) (p2':(List Int)) {S:Type} (yield:S->Int->Option (S×Bool)) (s1:Int×S):Option ((Int×S)⊕(Jx (S) (S))) :=
 (bif (decide (s1.1<(p1'.Cons.length:Int))) then
  (at? p1'.Cons s1.1).bind λx1=>
  (tag_met p1' x1 p2').bind λx2=>
  (
   (bif (!x2) then
    (yield s1.2 s1.1).bind λx3=>
    some ((!x3.2),x3.1)
   else
    some (false,s1.2))).bind λ(y2:Bool×S)=>
  (bif y2.1 then
   some (.inr (.ret y2.2))
  else
   some (.inl ((w64 (s1.1+1)),y2.2)))
 else
  some (.inr (.go s1.2)))
def Z5M {S:Type} (p1':Net) (p2':(List Int)) (yield:S->Int->Option (S×Bool)) (st':S):Option (S) :=
 (loopO (Z5M.s0 p1' p2' yield) (0,st')).bind λ(y1:Jx (S) (S))=>
 y1.elim (λr'=>
   some r') λa2=>
 some a2
def Z3A.b0 (s2:(List Int)) (z2:Int):Option (((List Int))×Nat) :=
 (app? 8 s2 [z2]).bind λx2=>
 some (x2,0)
def Z3A (n:Net) (ticks:(List Int)):Option ((List Int)×Int) :=
 (tag_own n ticks).bind λx1=>
 (bif (!x1) then
  some ([],230)
 else
  (Z5M n ticks (Z4Q Z3A.b0) ([],0)).bind λ(y1:((List Int))×Nat)=>
  some (y1.1,0))
def Z0b (i:Int) (many:Int):Bool :=
 ((decide (i>=0))&&(decide (i<many)))
def ZN.s0 (s:(List Form)) (f:Form->Option Bool) (s1:Int):Option ((Int)⊕(Jx (Unit) (Int))) :=
 (bif (decide (s1<(s.length:Int))) then
  (at? s s1).bind λx1=>
  (f x1).bind λx2=>
  (bif x2 then
   some (.inr (.ret s1))
  else
   some (.inl (w64 (s1+1))))
 else
  some (.inr (.go ())))
def ZN (s:(List Form)) (f:Form->Option Bool):Option (Int) :=
 (loopO (ZN.s0 s f) 0).bind λ(y1:Jx (Unit) (Int))=>
 y1.elim (λr'=>
   some r') λa2=>
 some (-1)
def Zs (s:(List Form)) (f:Form->Option Bool):Option (Bool) :=
 (ZN s f).bind λx1=>
 some (decide (x1>=0))
def Z1H (f:Form):Option (Bool) :=
 (Z09 f).bind λx1=>
 some (x1 != 0)
def ZR.s0 (s:(List Con)) (f:Con->Option Bool) (s1:Int):Option ((Int)⊕(Jx (Unit) (Int))) :=
 (bif (decide (s1<(s.length:Int))) then
  (at? s s1).bind λx1=>
  (f x1).bind λx2=>
  (bif x2 then
   some (.inr (.ret s1))
  else
   some (.inl (w64 (s1+1))))
 else
  some (.inr (.go ())))
def ZR (s:(List Con)) (f:Con->Option Bool):Option (Int) :=
 (loopO (ZR.s0 s f) 0).bind λ(y1:Jx (Unit) (Int))=>
 y1.elim (λr'=>
   some r') λa2=>
 some (-1)
def Z05 (s:(List Con)) (f:Con->Option Bool):Option (Bool) :=
 (ZR s f).bind λx1=>
 some (decide (x1>=0))
def Z4K (r':Range):Bool :=
 ((r'.HasLow||(r'.Low==0))&&(r'.HasHigh||(r'.High==0)))
def Z3n (n:Net) (c:Con):Bool :=
 ((((Z0b c.X n.Vars)&&(Z0b c.Y n.Vars))&&(Z0b c.Form (n.Forms.length:Int)))&&(Z4K c.Range))
def Z0m (c:Con) (p1':Net):Bool :=
 (!(Z3n p1' c))
def Z2H (n:Net):Option (Int) :=
 (
  (
   (
    (bif (!(Z0b n.Vars 25)) then
     some (!(Z0b n.Vars 25))
    else
     (bif (decide ((n.Forms.length:Int)>20)) then
      some (decide ((n.Forms.length:Int)>20))
     else
      some (decide ((n.Cons.length:Int)>200))))).bind λ(y3:Bool)=>
   (bif y3 then
    some (.ret 230)
   else
    (
     (Zs n.Forms (λz0=>Z1H z0)).bind λx1=>
     (bif x1 then
      some x1
     else
      (Z05 n.Cons (λz0=>some (Z0m z0 n))).bind λx2=>
      some x2)).bind λ(y4:Bool)=>
    (bif y4 then
     some (.ret 230)
    else
     some (.go ())))).bind λ(y2:Jx (Unit) (Int))=>
  y2.elim (λr'=>
    some (.ret r')) λa3=>
  some (.go ())).bind λ(y1:Jx (Unit) (Int))=>
 y1.elim (λr'=>
   some r') λa4=>
 some 0
def Zh.s0 (n:Net) (s1:Int):Option ((Int)⊕(Jx (Unit) (Bool))) :=
 (bif (decide (s1<(n.Forms.length:Int))) then
  (at? n.Forms s1).bind λx1=>
  (ZW x1).bind λx2=>
  (bif (!x2) then
   some (.inr (.ret false))
  else
   some (.inl (w64 (s1+1))))
 else
  some (.inr (.go ())))
def Zh (n:Net):Option (Bool) :=
 (bif (((decide ((n.Forms.length:Int)>4))||(decide ((n.Cons.length:Int)>8)))||(decide (n.Vars>8))) then
  some false
 else
  (loopO (Zh.s0 n) 0).bind λ(y1:Jx (Unit) (Bool))=>
  y1.elim (λr'=>
    some r') λa2=>
  (Z2H n).bind λx3=>
  some (x3==0))
def Z1r.b0 (s1:Unit) (z1:Int):Option ((Unit)×Nat) :=
 some ((),1)
def Z1r (n:Net) (ticks:(List Int)):Option (Bool) :=
 (tag_own n ticks).bind λx1=>
 (bif (!x1) then
  some false
 else
  (Z5M n ticks (Z4Q Z1r.b0) ((),0)).bind λ(y1:(Unit)×Nat)=>
  (bif (y1.2==0) then
   some true
  else
   some false))
def Z3Q.s0 (a:(List Int)) (b:(List Int)) (s1:Int):Option ((Int)⊕(Jx (Unit) (Bool))) :=
 (bif (decide (s1<(a.length:Int))) then
  (at? a s1).bind λx1=>
  (at? b s1).bind λx2=>
  (bif (x1 != x2) then
   some (.inr (.ret false))
  else
   some (.inl (w64 (s1+1))))
 else
  some (.inr (.go ())))
def Z3Q (a:(List Int)) (b:(List Int)):Option (Bool) :=
 (bif ((a.length:Int) != (b.length:Int)) then
  some false
 else
  (loopO (Z3Q.s0 a b) 0).bind λ(y1:Jx (Unit) (Bool))=>
  y1.elim (λr'=>
    some r') λa2=>
  some true)
def Z3o:Bool:=true
def Z0z.s0 (n:Net) (cut:Int) (s1:(List Int)):Option (((List Int))⊕((List Int))) :=
 (bif (decide ((s1.length:Int)<n.Vars)) then
  (cut? s1 0 (s1.length:Int)).bind λx4=>
  (app? 8 x4 [0]).bind λx5=>
  some (.inl x5)
 else
  some (.inr s1))
def Z0z.s1 (n:Net) (cut:Int) (x10:(List Int)×Int) (s2:Int×(List Int)):Option ((Int×(List Int))⊕((List Int))) :=
 (bif (decide (s2.1<(x10.1.length:Int))) then
  (at? x10.1 s2.1).bind λx12=>
  (app? 8 s2.2 [(w64 (x12+((w64 cut).tmod (w64 ((n.Cons.length:Int)+1)))))]).bind λx13=>
  some (.inl ((w64 (s2.1+1)),x13))
 else
  some (.inr s2.2))
def Z0z.s2 (n:Net) (cut:Int) (x23:(List Int)×Int) (s3:Int×(List Int)):Option ((Int×(List Int))⊕((List Int))) :=
 (bif (decide (s3.1<(x23.1.length:Int))) then
  (at? x23.1 s3.1).bind λx25=>
  (app? 8 s3.2 [(w64 (x25+((w64 cut).tmod (w64 ((n.Cons.length:Int)+1)))))]).bind λx26=>
  some (.inl ((w64 (s3.1+1)),x26))
 else
  some (.inr s3.2))
def Z0z (n:Net) (ticks:(List Int)) (cut:Int):Option (Bool) :=
 (Zh n).bind λx1=>
 (bif (!x1) then
  some Z3o
 else
  (bif (decide ((ticks.length:Int)<n.Vars)) then
   (cut? ticks 0 (ticks.length:Int)).bind λx2=>
   (app? 8 x2 [0]).bind λx3=>
   (loopO (Z0z.s0 n cut) x3).bind λ(y1:(List Int))=>
   (cut? y1 0 n.Vars).bind λx6=>
   (nz? (w64 ((n.Cons.length:Int)+1))).bind λu1=>
   (cut? n.Cons 0 ((w64 cut).tmod (w64 ((n.Cons.length:Int)+1)))).bind λx7=>
   (cut? n.Cons ((w64 cut).tmod (w64 ((n.Cons.length:Int)+1))) (n.Cons.length:Int)).bind λx8=>
   (Z3A (Net.mk n.Vars n.Forms x7) x6).bind λx9=>
   (Z3A (Net.mk n.Vars n.Forms x8) x6).bind λx10=>
   (Z3A n x6).bind λx11=>
   (bif ((x9.2 != x10.2)||(x9.2 != x11.2)) then
    some false
   else
    (loopO (Z0z.s1 n cut x10) (0,x9.1)).bind λ(y2:(List Int))=>
    (Z3Q y2 x11.1).bind λx14=>
    (
     (bif x14 then
      (Z1r n x6).bind λx15=>
      some (x15==((x9.2==0)&&((x11.1.length:Int)==0)))
     else
      some false)).bind λ(y3:Bool)=>
    (
     (bif y3 then
      (Z1r n x6).bind λx16=>
      (Z1r (Net.mk n.Vars n.Forms x7) x6).bind λx17=>
      (
       (bif x17 then
        (Z1r (Net.mk n.Vars n.Forms x8) x6).bind λx18=>
        some x18
       else
        some false)).bind λ(y5:Bool)=>
      some (x16==y5)
     else
      some false)).bind λ(y4:Bool)=>
    some (y4&&Z3o))
  else
   (cut? ticks 0 n.Vars).bind λx19=>
   (nz? (w64 ((n.Cons.length:Int)+1))).bind λu2=>
   (cut? n.Cons 0 ((w64 cut).tmod (w64 ((n.Cons.length:Int)+1)))).bind λx20=>
   (cut? n.Cons ((w64 cut).tmod (w64 ((n.Cons.length:Int)+1))) (n.Cons.length:Int)).bind λx21=>
   (Z3A (Net.mk n.Vars n.Forms x20) x19).bind λx22=>
   (Z3A (Net.mk n.Vars n.Forms x21) x19).bind λx23=>
   (Z3A n x19).bind λx24=>
   (bif ((x22.2 != x23.2)||(x22.2 != x24.2)) then
    some false
   else
    (loopO (Z0z.s2 n cut x23) (0,x22.1)).bind λ(y6:(List Int))=>
    (Z3Q y6 x24.1).bind λx27=>
    (
     (bif x27 then
      (Z1r n x19).bind λx28=>
      some (x28==((x22.2==0)&&((x24.1.length:Int)==0)))
     else
      some false)).bind λ(y7:Bool)=>
    (
     (bif y7 then
      (Z1r n x19).bind λx29=>
      (Z1r (Net.mk n.Vars n.Forms x20) x19).bind λx30=>
      (
       (bif x30 then
        (Z1r (Net.mk n.Vars n.Forms x21) x19).bind λx31=>
        some x31
       else
        some false)).bind λ(y9:Bool)=>
      some (x29==y9)
     else
      some false)).bind λ(y8:Bool)=>
    some (y8&&Z3o))))
def Za (x':Int) (y:Int):Int×Int :=
 ((Z0I x' y).1,(Z0I x' y).2)
def ZP.s0 (x':(List Bound)) (count:Int) (s1:Int×(List Bound)):Option ((Int×(List Bound))⊕((List Bound))) :=
 (bif (decide (s1.1<(s1.2.length:Int))) then
  (winA s1.1 ((w64 ((Za (IntKind.u64.wrap (x'.length:Int)) (IntKind.u64.wrap count)).2))).toNat).bind λu1=>
  (winB s1.1 ((w64 ((Za (IntKind.u64.wrap (x'.length:Int)) (IntKind.u64.wrap count)).2))).toNat).bind λu2=>
  some (.inl ((w64 (s1.1+((min (s1.1).toNat (((w64 ((Za (IntKind.u64.wrap (x'.length:Int)) (IntKind.u64.wrap count)).2))).toNat-(s1.1).toNat):Nat):Int))),(dbl s1.2 (s1.1).toNat)))
 else
  some (.inr s1.2))
def ZP (x':(List Bound)) (count:Int):Option ((List Bound)) :=
 (bif (decide (count<0)) then
  none
 else
  (bif ((decide (((Za (IntKind.u64.wrap (x'.length:Int)) (IntKind.u64.wrap count)).1)>0))||(decide (((Za (IntKind.u64.wrap (x'.length:Int)) (IntKind.u64.wrap count)).2)>9223372036854775807))) then
   none
  else
   (new? 16 (w64 ((Za (IntKind.u64.wrap (x'.length:Int)) (IntKind.u64.wrap count)).2)) (Bound.mk 0 0)).bind λx1=>
   (loopO (ZP.s0 x' count) (((min x'.length x1.length:Nat):Int),(cpy x1 x'))).bind λ(y1:(List Bound))=>
   some y1))
def Z4F.s0 (n:Int) (s1:Int×(List (List Bound))):Option ((Int×(List (List Bound)))⊕((List (List Bound)))) :=
 (bif (decide (s1.1<n)) then
  (ZP [(Bound.mk 1 0)] n).bind λx2=>
  (at? s1.2 s1.1).bind λx3=>
  (at? (s1.2.set (s1.1).toNat x2) s1.1).bind λx4=>
  (at? x4 s1.1).bind λx5=>
  some (.inl ((w64 (s1.1+1)),((s1.2.set (s1.1).toNat x2).set (s1.1).toNat (x4.set (s1.1).toNat (Bound.mk 0 0)))))
 else
  some (.inr s1.2))
def Z4F (n:Int):Option ((List (List Bound))×Int) :=
 (bif ((decide (n<0))||(decide (n>24))) then
  some ([],2)
 else
  (new? 24 n []).bind λx1=>
  (loopO (Z4F.s0 n) (0,x1)).bind λ(y1:(List (List Bound)))=>
  some (y1,0))
def ZE.s0 (s:(List (List Bound))) (f:(List Bound)->Option Bool) (s1:Int):Option ((Int)⊕(Jx (Unit) (Int))) :=
 (bif (decide (s1<(s.length:Int))) then
  (at? s s1).bind λx1=>
  (f x1).bind λx2=>
  (bif x2 then
   some (.inr (.ret s1))
  else
   some (.inl (w64 (s1+1))))
 else
  some (.inr (.go ())))
def ZE (s:(List (List Bound))) (f:(List Bound)->Option Bool):Option (Int) :=
 (loopO (ZE.s0 s f) 0).bind λ(y1:Jx (Unit) (Int))=>
 y1.elim (λr'=>
   some r') λa2=>
 some (-1)
def Zi (s:(List (List Bound))) (f:(List Bound)->Option Bool):Option (Bool) :=
 (ZE s f).bind λx1=>
 some (decide (x1>=0))
def ZL.s0 (s:(List Bound)) (f:Bound->Option Bool) (s1:Int):Option ((Int)⊕(Jx (Unit) (Int))) :=
 (bif (decide (s1<(s.length:Int))) then
  (at? s s1).bind λx1=>
  (f x1).bind λx2=>
  (bif x2 then
   some (.inr (.ret s1))
  else
   some (.inl (w64 (s1+1))))
 else
  some (.inr (.go ())))
def ZL (s:(List Bound)) (f:Bound->Option Bool):Option (Int) :=
 (loopO (ZL.s0 s f) 0).bind λ(y1:Jx (Unit) (Int))=>
 y1.elim (λr'=>
   some r') λa2=>
 some (-1)
def Zl (s:(List Bound)) (f:Bound->Option Bool):Option (Bool) :=
 (ZL s f).bind λx1=>
 some (decide (x1>=0))
def Z6u (b:Bound):Bool :=
 ((((ZO b)&&(decide (b.Inf>=0)))&&(decide (b.N>=(-1125899906842624))))&&(decide (b.N<=1125899906842624)))
def Z5T (b:Bound):Bool :=
 (!(Z6u b))
def Z4a (row:(List Bound)) (p1':Int):Option (Bool) :=
 (
  (bif ((row.length:Int) != p1') then
   some true
  else
   (Zl row (λz0=>some (Z5T z0))).bind λx1=>
   some x1)).bind λ(y1:Bool)=>
 some y1
def Z3w (d:(List (List Bound))):Option (Bool) :=
 (
  (bif (decide ((d.length:Int)<=24)) then
   (Zi d (λz0=>Z4a z0 (d.length:Int))).bind λx1=>
   some (!x1)
  else
   some false)).bind λ(y1:Bool)=>
 some y1
def Z23 (s:(List (List Bound))):Option ((List (List Bound))) :=
 (some? s).bind λu1=>
 (app? 24 [] s).bind λx1=>
 some x1
def Z2U (s:(List Bound)):Option ((List Bound)) :=
 (some? s).bind λu1=>
 (app? 16 [] s).bind λx1=>
 some x1
def Z73 (d:(List (List Bound))):Option ((List (List Bound))) :=
 (bif (!d.isEmpty&&decide (d.length*24<=room)&&d.all λq=>!q.isEmpty&&decide (q.length*16<=room)) then
  some d
 else
  none)
def stp_Set (d:(List (List Bound))) (i:Int) (j:Int) (most:Bound):Option ((List (List Bound))×Int) :=
 (Z3w d).bind λx1=>
 (bif ((((((!x1)||(decide (i<0)))||(decide (j<0)))||(decide (i>=(d.length:Int))))||(decide (j>=(d.length:Int))))||(!(Z6u most))) then
  some ([],2)
 else
  (Z73 d).bind λx2=>
  (
   (at? x2 i).bind λx3=>
   (at? x3 j).bind λx4=>
   (bif (Z0j most x4) then
    (at? x2 i).bind λx5=>
    (at? x5 j).bind λx6=>
    some (x2.set (i).toNat (x5.set (j).toNat most))
   else
    some x2)).bind λ(y1:(List (List Bound)))=>
  some (y1,0))
def Z5C.s0 (l:(List epactlaw24_Set)) (s1:(List (List Bound))×Int×Int):Option (((List (List Bound))×Int×Int)⊕((List (List Bound))×Int)) :=
 (bif (decide (s1.2.2<(l.length:Int))) then
  (
   (
    (at? l s1.2.2).bind λx2=>
    (bif (s1.2.1==0) then
     (stp_Set s1.1 x2.I x2.J x2.Most).bind λx3=>
     some (x3.1,x3.2)
    else
     some (s1.1,s1.2.1))).bind λ(y3:(List (List Bound))×Int)=>
   some (y3.1,y3.2)).bind λ(y2:(List (List Bound))×Int)=>
  some (.inl (y2.1,y2.2,(w64 (s1.2.2+1))))
 else
  some (.inr (s1.1,s1.2.1)))
def Z5C (n:Int) (l:(List epactlaw24_Set)):Option ((List (List Bound))×Bool) :=
 (Z4F n).bind λx1=>
 (loopO (Z5C.s0 l) (x1.1,x1.2,0)).bind λ(y1:(List (List Bound))×Int)=>
 some (y1.1,(y1.2==0))
def Z5A.s0 (x1:(List epactlaw24_Set)) (s2:Int×Int×(List epactlaw24_Set)):Option ((Int×Int×(List epactlaw24_Set))⊕(Int×(List epactlaw24_Set))) :=
 (bif (decide (s2.2.1<(x1.length:Int))) then
  (
   (
    (at? x1 s2.2.1).bind λx2=>
    (nz? s2.1).bind λu1=>
    (nz? s2.1).bind λu2=>
    (
     (bif (x2.Most.Inf==0) then
      some (0,(x2.Most.N.tmod 1001))
     else
      some (1,0))).bind λ(y4:Int×Int)=>
    (bif (((iAnd .i64 x2.I 255).tmod s2.1) != ((iAnd .i64 x2.J 255).tmod s2.1)) then
     (app? 32 s2.2.2 [(epactlaw24_Set.mk ((iAnd .i64 x2.I 255).tmod s2.1) ((iAnd .i64 x2.J 255).tmod s2.1) (Bound.mk y4.1 y4.2))]).bind λx3=>
     some x3
    else
     some s2.2.2)).bind λ(y3:(List epactlaw24_Set))=>
   some y3).bind λ(y2:(List epactlaw24_Set))=>
  some (.inl (s2.1,(w64 (s2.2.1+1)),y2))
 else
  some (.inr (s2.1,s2.2.2)))
def Z5A (n:Int) (l:(List epactlaw24_Set)):Option ((List (List Bound))) :=
 (cut? l 0 (iMin (l.length:Int) 60)).bind λx1=>
 (loopO (Z5A.s0 x1) ((w64 (1+(w64 (n.tmod 24)))),0,[])).bind λ(y1:Int×(List epactlaw24_Set))=>
 (Z5C y1.1 y1.2).bind λx4=>
 some x4.1
def ZQ.s0 (d:(List (List Bound))) (s1:Int×(List (List Bound))):Option ((Int×(List (List Bound)))⊕(Jx ((List (List Bound))) ((List (List Bound))×Bool×Int))) :=
 (bif (decide (s1.1<((d.length:Nat):Int))) then
  (at? s1.2 s1.1).bind λx3=>
  (at? x3 s1.1).bind λx4=>
  (bif (Z0j x4 (Bound.mk 0 0)) then
   some (.inr (.ret ([],false,0)))
  else
   (at? s1.2 s1.1).bind λx5=>
   (at? x5 s1.1).bind λx6=>
   some (.inl ((w64 (s1.1+1)),(s1.2.set (s1.1).toNat (x5.set (s1.1).toNat (Bound.mk 0 0))))))
 else
  some (.inr (.go s1.2)))
def ZQ.s3 (d:(List (List Bound))) (s2:Int×(List (List Bound))) (s3:Int×(List (List Bound))) (s4:Int×(List (List Bound))):Option ((Int×(List (List Bound)))⊕((List (List Bound)))) :=
 (bif (decide (s4.1<((d.length:Nat):Int))) then
  (
   (
    (at? s4.2 s3.1).bind λx7=>
    (at? x7 s2.1).bind λx8=>
    (at? s4.2 s2.1).bind λx9=>
    (at? x9 s4.1).bind λx10=>
    (
     (bif (((Z0K x8 x10).2)==0) then
      (at? s4.2 s3.1).bind λx11=>
      (at? x11 s4.1).bind λx12=>
      some (Z0j ((Z0K x8 x10).1) x12)
     else
      some false)).bind λ(y8:Bool)=>
    (bif y8 then
     (at? s4.2 s3.1).bind λx13=>
     (at? x13 s4.1).bind λx14=>
     some (s4.2.set (s3.1).toNat (x13.set (s4.1).toNat ((Z0K x8 x10).1)))
    else
     some s4.2)).bind λ(y7:(List (List Bound)))=>
   some y7).bind λ(y6:(List (List Bound)))=>
  some (.inl ((w64 (s4.1+1)),y6))
 else
  some (.inr s4.2))
def ZQ.s2 (d:(List (List Bound))) (s2:Int×(List (List Bound))) (s3:Int×(List (List Bound))):Option ((Int×(List (List Bound)))⊕((List (List Bound)))) :=
 (bif (decide (s3.1<((d.length:Nat):Int))) then
  (loopO (ZQ.s3 d s2 s3) (0,s3.2)).bind λ(y5:(List (List Bound)))=>
  some (.inl ((w64 (s3.1+1)),y5))
 else
  some (.inr s3.2))
def ZQ.s4 (d:(List (List Bound))) (y4:(List (List Bound))) (s5:Int):Option ((Int)⊕(Jx (Unit) (Unit))) :=
 (bif (decide (s5<((d.length:Nat):Int))) then
  (at? y4 s5).bind λx15=>
  (at? x15 s5).bind λx16=>
  (bif (Z0j x16 (Bound.mk 0 0)) then
   some (.inr (.ret ()))
  else
   some (.inl (w64 (s5+1))))
 else
  some (.inr (.go ())))
def ZQ.s1 (d:(List (List Bound))) (s2:Int×(List (List Bound))):Option ((Int×(List (List Bound)))⊕(Jx ((List (List Bound))) ((List (List Bound))×Bool×Int))) :=
 (bif (decide (s2.1<((d.length:Nat):Int))) then
  (
   (loopO (ZQ.s2 d s2) (0,s2.2)).bind λ(y4:(List (List Bound)))=>
   (loopO (ZQ.s4 d y4) 0).bind λ(y9:Jx (Unit) (Unit))=>
   y9.elim (λa7=>
     some (false,y4)) λa6=>
   some (true,y4)).bind λ(y3:Bool×(List (List Bound)))=>
  (bif (!y3.1) then
   some (.inr (.ret ([],false,0)))
  else
   some (.inl ((w64 (s2.1+1)),y3.2)))
 else
  some (.inr (.go s2.2)))
def ZQ (d:(List (List Bound))):Option ((List (List Bound))×Bool×Int) :=
 (Z3w d).bind λx1=>
 (bif (!x1) then
  some ([],false,2)
 else
  (Z73 d).bind λx2=>
  (loopO (ZQ.s0 d) (0,x2)).bind λ(y1:Jx ((List (List Bound))) ((List (List Bound))×Bool×Int))=>
  y1.elim (λr'=>
    some r') λa2=>
  (loopO (ZQ.s1 d) (0,a2)).bind λ(y2:Jx ((List (List Bound))) ((List (List Bound))×Bool×Int))=>
  y2.elim (λr'=>
    some r') λa8=>
  some (a8,true,0))
def Z1S.s1 (ticks:(List Int)) (s1:Int) (x2:(List Bound)) (s2:Int):Option ((Int)⊕(Jx (Unit) (Bool))) :=
 (bif (decide (s2<(x2.length:Int))) then
  (
   (
    (at? x2 s2).bind λx3=>
    (at? ticks s2).bind λx4=>
    (at? ticks s1).bind λx5=>
    (
     (bif (x3.Inf==1) then
      some (.go ())
     else
      (
       (
        (bif (((Z13 x4 x5).2) != 0) then
         (at? ticks s2).bind λx6=>
         (at? ticks s1).bind λx7=>
         some (decide (x6>x7))
        else
         some false)).bind λ(y7:Bool)=>
       (bif y7 then
        some y7
       else
        some ((((Z13 x4 x5).2)==0)&&(decide (((Z13 x4 x5).1)>x3.N))))).bind λ(y6:Bool)=>
      (bif y6 then
       some (.ret false)
      else
       some (.go ())))).bind λ(y5:Jx (Unit) (Bool))=>
    y5.elim (λr'=>
      some (.ret r')) λa6=>
    some (.go ())).bind λ(y4:Jx (Unit) (Bool))=>
   y4.elim (λr'=>
     some (.ret r')) λa7=>
   some (.go ())).bind λ(y3:Jx (Unit) (Bool))=>
  y3.elim (λr'=>
    some (.inr (.ret r'))) λa8=>
  some (.inl (w64 (s2+1)))
 else
  some (.inr (.go ())))
def Z1S.s0 (d:(List (List Bound))) (ticks:(List Int)) (s1:Int):Option ((Int)⊕(Jx (Unit) (Bool))) :=
 (bif (decide (s1<(d.length:Int))) then
  (at? d s1).bind λx2=>
  (loopO (Z1S.s1 ticks s1 x2) 0).bind λ(y2:Jx (Unit) (Bool))=>
  y2.elim (λr'=>
    some (.inr (.ret r'))) λa9=>
  some (.inl (w64 (s1+1)))
 else
  some (.inr (.go ())))
def Z1S (d:(List (List Bound))) (ticks:(List Int)):Option (Bool) :=
 (Z3w d).bind λx1=>
 (bif ((!x1)||((ticks.length:Int) != (d.length:Int))) then
  some false
 else
  (loopO (Z1S.s0 d ticks) 0).bind λ(y1:Jx (Unit) (Bool))=>
  y1.elim (λr'=>
    some r') λa10=>
  some true)
def Z2i.s0 (m:(List (List Bound))) (n:Int) (s1:Int):Option ((Int)⊕(Jx (Unit) (Bool))) :=
 (bif (decide (s1<(m.length:Int))) then
  (at? m s1).bind λx1=>
  (bif ((x1.length:Int) != n) then
   some (.inr (.ret false))
  else
   some (.inl (w64 (s1+1))))
 else
  some (.inr (.go ())))
def Z2i (m:(List (List Bound))) (n:Int):Option (Bool) :=
 (loopO (Z2i.s0 m n) 0).bind λ(y1:Jx (Unit) (Bool))=>
 y1.elim (λr'=>
   some r') λa2=>
 some ((m.length:Int)==n)
def Z04.s1 (a:(List (List Bound))) (b:(List (List Bound))) (s1:Int) (s2:Int):Option ((Int)⊕(Jx (Unit) (Bool))) :=
 (at? a s1).bind λx3=>
 (bif (decide (s2<(x3.length:Int))) then
  (at? a s1).bind λx4=>
  (at? x4 s2).bind λx5=>
  (at? b s1).bind λx6=>
  (at? x6 s2).bind λx7=>
  (bif (!((x5.Inf==x7.Inf)&&((x5.N==x7.N)&&true))) then
   some (.inr (.ret false))
  else
   some (.inl (w64 (s2+1))))
 else
  some (.inr (.go ())))
def Z04.s0 (a:(List (List Bound))) (b:(List (List Bound))) (s1:Int):Option ((Int)⊕(Jx (Unit) (Bool))) :=
 (bif (decide (s1<(a.length:Int))) then
  (at? a s1).bind λx1=>
  (at? b s1).bind λx2=>
  (bif ((x1.length:Int) != (x2.length:Int)) then
   some (.inr (.ret false))
  else
   (loopO (Z04.s1 a b s1) 0).bind λ(y2:Jx (Unit) (Bool))=>
   y2.elim (λr'=>
     some (.inr (.ret r'))) λa3=>
   some (.inl (w64 (s1+1))))
 else
  some (.inr (.go ())))
def Z04 (a:(List (List Bound))) (b:(List (List Bound))):Option (Bool) :=
 (bif ((a.length:Int) != (b.length:Int)) then
  some false
 else
  (loopO (Z04.s0 a b) 0).bind λ(y1:Jx (Unit) (Bool))=>
  y1.elim (λr'=>
    some r') λa4=>
  some true)
def Z2J:Bool:=true
def Z0E.s0 (x1:(List (List Bound))) (s1:(List Int)):Option (((List Int))⊕((List Int))) :=
 (bif (decide ((s1.length:Int)<(x1.length:Int))) then
  (cut? s1 0 (s1.length:Int)).bind λx5=>
  (app? 8 x5 [0]).bind λx6=>
  some (.inl x6)
 else
  some (.inr s1))
def Z0E.s2 (x1:(List (List Bound))) (x2:(List (List Bound))×Bool×Int) (s2:Int×(List Int)) (s3:Int×(List Int)):Option ((Int×(List Int))⊕((List Int))) :=
 (bif (decide (s3.1<(x1.length:Int))) then
  (
   (
    (at? x2.1 s3.1).bind λx13=>
    (at? x13 s2.1).bind λx14=>
    (bif (x14.Inf==0) then
     (at? s3.2 s2.1).bind λx15=>
     (at? x2.1 s3.1).bind λx16=>
     (at? x16 s2.1).bind λx17=>
     (at? s3.2 s2.1).bind λx18=>
     some (s3.2.set (s2.1).toNat (iMin x15 x17.N))
    else
     some s3.2)).bind λ(y5:(List Int))=>
   some y5).bind λ(y4:(List Int))=>
  some (.inl ((w64 (s3.1+1)),y4))
 else
  some (.inr s3.2))
def Z0E.s1 (x1:(List (List Bound))) (x2:(List (List Bound))×Bool×Int) (s2:Int×(List Int)):Option ((Int×(List Int))⊕((List Int))) :=
 (bif (decide (s2.1<(x1.length:Int))) then
  (loopO (Z0E.s2 x1 x2 s2) (0,s2.2)).bind λ(y3:(List Int))=>
  some (.inl ((w64 (s2.1+1)),y3))
 else
  some (.inr s2.2))
def Z0E.s4 (x1:(List (List Bound))) (x2:(List (List Bound))×Bool×Int) (s4:Int×(List Int)) (s5:Int×(List Int)):Option ((Int×(List Int))⊕((List Int))) :=
 (bif (decide (s5.1<(x1.length:Int))) then
  (
   (
    (at? x2.1 s5.1).bind λx27=>
    (at? x27 s4.1).bind λx28=>
    (bif (x28.Inf==0) then
     (at? s5.2 s4.1).bind λx29=>
     (at? x2.1 s5.1).bind λx30=>
     (at? x30 s4.1).bind λx31=>
     (at? s5.2 s4.1).bind λx32=>
     some (s5.2.set (s4.1).toNat (iMin x29 x31.N))
    else
     some s5.2)).bind λ(y10:(List Int))=>
   some y10).bind λ(y9:(List Int))=>
  some (.inl ((w64 (s5.1+1)),y9))
 else
  some (.inr s5.2))
def Z0E.s3 (x1:(List (List Bound))) (x2:(List (List Bound))×Bool×Int) (s4:Int×(List Int)):Option ((Int×(List Int))⊕((List Int))) :=
 (bif (decide (s4.1<(x1.length:Int))) then
  (loopO (Z0E.s4 x1 x2 s4) (0,s4.2)).bind λ(y8:(List Int))=>
  some (.inl ((w64 (s4.1+1)),y8))
 else
  some (.inr s4.2))
def Z0E (n:Int) (l:(List epactlaw24_Set)) (ticks:(List Int)):Option (Bool) :=
 (Z5A n l).bind λx1=>
 (bif ((x1.length:Int)==0) then
  some false
 else
  (ZQ x1).bind λx2=>
  (bif (decide ((ticks.length:Int)<(x1.length:Int))) then
   (cut? ticks 0 (ticks.length:Int)).bind λx3=>
   (app? 8 x3 [0]).bind λx4=>
   (loopO (Z0E.s0 x1) x4).bind λ(y1:(List Int))=>
   (cut? y1 0 (x1.length:Int)).bind λx7=>
   (Z1S x1 x7).bind λx8=>
   (bif ((x2.2.2 != 0)||(!x2.2.1)) then
    some ((((x2.2.2==0)&&(!x8))&&((x2.1.length:Int)==0))&&Z2J)
   else
    (cut? y1 0 (x1.length:Int)).bind λx9=>
    (Z1S x2.1 x9).bind λx10=>
    (bif (x10 != x8) then
     some false
    else
     (Z2i x2.1 (x1.length:Int)).bind λx11=>
     (bif (!x11) then
      some false
     else
      (new? 8 (x1.length:Int) 0).bind λx12=>
      (loopO (Z0E.s1 x1 x2) (0,x12)).bind λ(y2:(List Int))=>
      (Z1S x1 y2).bind λx19=>
      (
       (bif x19 then
        (Z1S x2.1 y2).bind λx20=>
        some x20
       else
        some false)).bind λ(y6:Bool)=>
      some (y6&&Z2J))))
  else
   (cut? ticks 0 (x1.length:Int)).bind λx21=>
   (Z1S x1 x21).bind λx22=>
   (bif ((x2.2.2 != 0)||(!x2.2.1)) then
    some ((((x2.2.2==0)&&(!x22))&&((x2.1.length:Int)==0))&&Z2J)
   else
    (cut? ticks 0 (x1.length:Int)).bind λx23=>
    (Z1S x2.1 x23).bind λx24=>
    (bif (x24 != x22) then
     some false
    else
     (Z2i x2.1 (x1.length:Int)).bind λx25=>
     (bif (!x25) then
      some false
     else
      (new? 8 (x1.length:Int) 0).bind λx26=>
      (loopO (Z0E.s3 x1 x2) (0,x26)).bind λ(y7:(List Int))=>
      (Z1S x1 y7).bind λx33=>
      (
       (bif x33 then
        (Z1S x2.1 y7).bind λx34=>
        some x34
       else
        some false)).bind λ(y11:Bool)=>
      some (y11&&Z2J))))))
def Z00 (a:Bound) (b:Bound):Bound :=
 (bif ((a.Inf==1)||(b.Inf==1)) then
  (Bound.mk 1 0)
 else
  (Bound.mk 0 (w64 (a.N+b.N))))
def Z1d (a:Bound) (b:Bound):Bool :=
 (bif (a.Inf==1) then
  false
 else
  ((b.Inf==1)||(decide (a.N<b.N))))
def Zk.s0 (rc:(List (List Bound))->Int->Int->(List Bool)->Option Bound) (d:(List (List Bound))) (from':Int) (to':Int) (met:(List Bool)) (s1:Int×Int×Int):Option ((Int×Int×Int)⊕(Int×Int)) :=
 (bif (decide (s1.1<(d.length:Int))) then
  (
   (
    (at? met s1.1).bind λx3=>
    (bif (x3||(s1.1==to')) then
     some (.ret ())
    else
     (at? met s1.1).bind λx4=>
     (
      (at? d from').bind λx5=>
      (at? x5 s1.1).bind λx6=>
      (rc d s1.1 to' (met.set (s1.1).toNat true)).bind λx7=>
      (bif (Z1d (Z00 x6 x7) (Bound.mk s1.2.1 s1.2.2)) then
       some ((Z00 x6 x7).Inf,(Z00 x6 x7).N)
      else
       some (s1.2.1,s1.2.2))).bind λ(y4:Int×Int)=>
     (at? (met.set (s1.1).toNat true) s1.1).bind λx8=>
     (back? met s1.1).bind λu1=>
     some (.go (y4.1,y4.2)))).bind λ(y3:Jx (Int×Int) (Unit))=>
   y3.elim (λa4=>
     some (s1.2.1,s1.2.2)) λa3=>
   some (a3.1,a3.2)).bind λ(y2:Int×Int)=>
  some (.inl ((w64 (s1.1+1)),y2.1,y2.2))
 else
  some (.inr (s1.2.1,s1.2.2)))
def Zk.b (rc:(List (List Bound))->Int->Int->(List Bool)->Option Bound) (d:(List (List Bound))) (from':Int) (to':Int) (met:(List Bool)):Option (Bound) :=
 (at? d from').bind λx1=>
 (at? x1 to').bind λx2=>
 (loopO (Zk.s0 rc d from' to' met) (0,x2.Inf,x2.N)).bind λ(y1:Int×Int)=>
 some (Bound.mk y1.1 y1.2)
def Zk:Nat->(List (List Bound))->Int->Int->(List Bool)->Option Bound
 | 0=>λ_ _ _ _=>none
 | g+1=>Zk.b (Zk g)
def Z12 (d:(List (List Bound))) (from':Int) (to':Int):Option (Bound) :=
 (new? 1 (d.length:Int) false).bind λx1=>
 (at? x1 from').bind λx2=>
 (Zk ((x1.set (from').toNat true).length+1) d from' to' (x1.set (from').toNat true)).bind λx3=>
 some x3
def ZY.s1 (d:(List (List Bound))) (s2:Int×(List (List Bound))) (s4:Int×(List Bound)):Option ((Int×(List Bound))⊕((List Bound))) :=
 (bif (decide (s4.1<(d.length:Int))) then
  (
   (
    (bif (s2.1==s4.1) then
     (app? 16 s4.2 [(Bound.mk 0 0)]).bind λx2=>
     some x2
    else
     (Z12 d s2.1 s4.1).bind λx3=>
     (app? 16 s4.2 [x3]).bind λx4=>
     some x4)).bind λ(y4:(List Bound))=>
   some y4).bind λ(y3:(List Bound))=>
  some (.inl ((w64 (s4.1+1)),y3))
 else
  some (.inr s4.2))
def ZY.s0 (d:(List (List Bound))) (s2:Int×(List (List Bound))):Option ((Int×(List (List Bound)))⊕(Jx ((List (List Bound))) ((List (List Bound))×Bool))) :=
 (bif (decide (s2.1<(d.length:Int))) then
  (Z12 d s2.1 s2.1).bind λx1=>
  (bif (Z1d x1 (Bound.mk 0 0)) then
   some (.inr (.ret ([],false)))
  else
   (loopO (ZY.s1 d s2) (0,[])).bind λ(y2:(List Bound))=>
   (app? 24 s2.2 [y2]).bind λx5=>
   some (.inl ((w64 (s2.1+1)),x5)))
 else
  some (.inr (.go s2.2)))
def ZY (d:(List (List Bound))):Option ((List (List Bound))×Bool) :=
 (loopO (ZY.s0 d) (0,[])).bind λ(y1:Jx ((List (List Bound))) ((List (List Bound))×Bool))=>
 y1.elim (λr'=>
   some r') λa2=>
 some (a2,true)
def Z1t (d:(List (List Bound))):Option ((List (List Bound))×Bool×Int) :=
 (bif d.isEmpty then
  some ([],true,0)
 else
  ZQ d)
def Zv (a:prop_end) (b:prop_end) (there:prop_end->Option Bool) (more:prop_end->prop_end->Option Bool):Option (prop_end) :=
 (there b).bind λx1=>
 (
  (bif x1 then
   (there a).bind λx2=>
   (
    (bif (!x2) then
     some true
    else
     (more b a).bind λx3=>
     some x3)).bind λ(y2:Bool)=>
   some y2
  else
   some false)).bind λ(y1:Bool)=>
 (bif y1 then
  some b
 else
  some a)
def Z29 (e':prop_end):Bool :=
 e'.there
def Z4U (a:prop_end) (b:prop_end):Bool :=
 (decide (a.n>b.n))
def Z4Z (a:prop_end) (b:prop_end):Bool :=
 (decide (a.n<b.n))
def Z3s (a:Range) (b:Range):Option (Range×Bool) :=
 (Zv (prop_end.mk a.Low a.HasLow) (prop_end.mk b.Low b.HasLow) (λz0=>some (Z29 z0)) (λz0 z1=>some (Z4U z0 z1))).bind λx1=>
 (Zv (prop_end.mk a.High a.HasHigh) (prop_end.mk b.High b.HasHigh) (λz0=>some (Z29 z0)) (λz0 z1=>some (Z4Z z0 z1))).bind λx2=>
 (bif ((x1.there&&x2.there)&&(decide (x1.n>x2.n))) then
  some ((Range.mk 0 0 false false),false)
 else
  some ((Range.mk x1.n x2.n x1.there x2.there),true))
def Z39.s0 (n:Int) (s1:Int×(List (List Bound))):Option ((Int×(List (List Bound)))⊕((List (List Bound)))) :=
 (bif (decide (s1.1<n)) then
  (ZP [(Bound.mk 1 0)] n).bind λx2=>
  (at? s1.2 s1.1).bind λx3=>
  (at? (s1.2.set (s1.1).toNat x2) s1.1).bind λx4=>
  (at? x4 s1.1).bind λx5=>
  some (.inl ((w64 (s1.1+1)),((s1.2.set (s1.1).toNat x2).set (s1.1).toNat (x4.set (s1.1).toNat (Bound.mk 0 0)))))
 else
  some (.inr s1.2))
def Z39 (n:Int):Option ((List (List Bound))×Int) :=
 (bif ((decide (n<0))||(decide (n>24))) then
  none
 else
  (new? 24 n []).bind λx1=>
  (loopO (Z39.s0 n) (0,x1)).bind λ(y1:(List (List Bound)))=>
  some (y1,0))
def Z1N.s0 (n:Net) (s1:Int×(List (List Bound))):Option ((Int×(List (List Bound)))⊕((List (List Bound)))) :=
 (bif (decide (s1.1<(n.Cons.length:Int))) then
  (
   (
    (at? n.Cons s1.1).bind λx2=>
    (at? n.Forms x2.Form).bind λx3=>
    (Z3e x3 x2.Range).bind λx4=>
    (
     (at? s1.2 x2.X).bind λx5=>
     (at? x5 x2.Y).bind λx6=>
     (bif (Z0j x4.2 x6) then
      (at? s1.2 x2.X).bind λx7=>
      (at? x7 x2.Y).bind λx8=>
      some (s1.2.set (x2.X).toNat (x7.set (x2.Y).toNat x4.2))
     else
      some s1.2)).bind λ(y4:(List (List Bound)))=>
    (at? y4 x2.Y).bind λx9=>
    (at? x9 x2.X).bind λx10=>
    (bif (Z0j ((Z8 x4.1).1) x10) then
     (at? y4 x2.Y).bind λx11=>
     (at? x11 x2.X).bind λx12=>
     some (y4.set (x2.Y).toNat (x11.set (x2.X).toNat ((Z8 x4.1).1)))
    else
     some y4)).bind λ(y3:(List (List Bound)))=>
   some y3).bind λ(y2:(List (List Bound)))=>
  some (.inl ((w64 (s1.1+1)),y2))
 else
  some (.inr s1.2))
def Z1N (n:Net):Option ((List (List Bound))) :=
 (Z39 n.Vars).bind λx1=>
 (loopO (Z1N.s0 n) (0,x1.1)).bind λ(y1:(List (List Bound)))=>
 some y1
def Z0g (s:(List Con)):Option ((List Con)) :=
 (some? s).bind λu1=>
 (app? 48 [] s).bind λx1=>
 some x1
def Z5K (n:Net) (c:Con) (d:(List (List Bound))):Option (Range×Bool) :=
 (at? d c.Y).bind λx1=>
 (at? x1 c.X).bind λx2=>
 (at? n.Forms c.Form).bind λx3=>
 (at? d c.X).bind λx4=>
 (at? x4 c.Y).bind λx5=>
 (Z2C x3 ((Z8 x2).1) x5).bind λx6=>
 (bif ((!x6.2.1)||(x6.2.2 != 0)) then
  some ((Range.mk 0 0 false false),false)
 else
  (Z3s c.Range x6.1).bind λx7=>
  some (x7.1,x7.2))
def Zx.s0 (n:Net) (s1:Unit):Option ((Unit)⊕(Unit)) :=
 (bif (decide (0<(n.Cons.length:Int))) then
  (at? n.Cons 0).bind λx3=>
  none
 else
  some (.inr ()))
def Zx.s1 (n:Net) (x2:(List (List Bound))×Bool×Int) (x4:(List Con)) (s2:Int×(List Con)):Option ((Int×(List Con))⊕(Jx ((List Con)) (Net×(List (List Bound))×Bool))) :=
 (bif (decide (s2.1<(x4.length:Int))) then
  (at? s2.2 s2.1).bind λx5=>
  (Z5K (Net.mk n.Vars n.Forms s2.2) x5 x2.1).bind λx6=>
  (bif (!x6.2) then
   some (.inr (.ret ((Net.mk 0 [] []),[],false)))
  else
   (at? s2.2 s2.1).bind λx7=>
   some (.inl ((w64 (s2.1+1)),(s2.2.set (s2.1).toNat (Con.mk x7.X x7.Y x7.Form x6.1)))))
 else
  some (.inr (.go s2.2)))
def Zx (n:Net):Option (Net×(List (List Bound))×Bool) :=
 (Z1N n).bind λx1=>
 (Z1t x1).bind λx2=>
 (bif (!x2.2.1) then
  some ((Net.mk 0 [] []),[],false)
 else
  (bif (n.Cons.isEmpty) then
   (loopO (Zx.s0 n) ()).bind λ(y1:Unit)=>
   some (n,x2.1,true)
  else
   (Z0g n.Cons).bind λx4=>
   (loopO (Zx.s1 n x2 x4) (0,x4)).bind λ(y2:Jx ((List Con)) (Net×(List (List Bound))×Bool))=>
   y2.elim (λr'=>
     some r') λa2=>
   some ((Net.mk n.Vars n.Forms a2),x2.1,true)))
def Z0F.s0 (s1':(List Con)) (s2':(List Con)) (s1:Int):Option ((Int)⊕(Jx (Unit) (Bool))) :=
 (bif (decide (s1<(s1'.length:Int))) then
  (at? s1' s1).bind λx1=>
  (at? s2' s1).bind λx2=>
  (bif (!((x1.X==x2.X)&&((x1.Y==x2.Y)&&((x1.Form==x2.Form)&&(((x1.Range.Low==x2.Range.Low)&&((x1.Range.High==x2.Range.High)&&((x1.Range.HasLow==x2.Range.HasLow)&&((x1.Range.HasHigh==x2.Range.HasHigh)&&true))))&&true))))) then
   some (.inr (.ret false))
  else
   some (.inl (w64 (s1+1))))
 else
  some (.inr (.go ())))
def Z0F (s1':(List Con)) (s2':(List Con)):Option (Bool) :=
 (bif ((s1'.length:Int) != (s2'.length:Int)) then
  some false
 else
  (loopO (Z0F.s0 s1' s2') 0).bind λ(y1:Jx (Unit) (Bool))=>
  y1.elim (λr'=>
    some r') λa2=>
  some true)
def Z3O.s0 (rounds:Int) (s1:Int×Int×(List Form)×(List Con)×(List (List Bound))×Int):Option ((Int×Int×(List Form)×(List Con)×(List (List Bound))×Int)⊕(Jx (Int×Int×(List Form)×(List Con)×(List (List Bound))×Int) (Spread×Int))) :=
 (bif ((decide (s1.2.2.2.2.2<rounds))&&(s1.1==3)) then
  (
   (Zx (Net.mk s1.2.1 s1.2.2.1 s1.2.2.2.1)).bind λx2=>
   (bif (!x2.2.2) then
    some (.ret ((Spread.mk 2 (Net.mk 0 [] []) [] (w64 (s1.2.2.2.2.2+1))),0))
   else
    (
     (Z0F x2.1.Cons s1.2.2.2.1).bind λx3=>
     (bif x3 then
      some (1,(w64 (s1.2.2.2.2.2+1)))
     else
      some (s1.1,(w64 (s1.2.2.2.2.2+1))))).bind λ(y3:Int×Int)=>
    some (.go (y3.1,x2.1.Vars,x2.1.Forms,x2.1.Cons,x2.2.1,y3.2)))).bind λ(y2:Jx (Int×Int×(List Form)×(List Con)×(List (List Bound))×Int) (Spread×Int))=>
  y2.elim (λr'=>
    some (.inr (.ret r'))) λa3=>
  some (.inl (a3.1,a3.2.1,a3.2.2.1,a3.2.2.2.1,a3.2.2.2.2.1,a3.2.2.2.2.2))
 else
  some (.inr (.go (s1.1,s1.2.1,s1.2.2.1,s1.2.2.2.1,s1.2.2.2.2.1,s1.2.2.2.2.2))))
def Z3O (n:Net) (rounds:Int):Option (Spread×Int) :=
 (Z2H n).bind λx1=>
 (bif (x1 != 0) then
  some ((Spread.mk 0 (Net.mk 0 [] []) [] 0),230)
 else
  (bif ((decide (rounds<1))||(decide (rounds>1000))) then
   some ((Spread.mk 0 (Net.mk 0 [] []) [] 0),2)
  else
   (loopO (Z3O.s0 rounds) (3,n.Vars,n.Forms,n.Cons,[],0)).bind λ(y1:Jx (Int×Int×(List Form)×(List Con)×(List (List Bound))×Int) (Spread×Int))=>
   y1.elim (λr'=>
     some r') λa4=>
   some ((Spread.mk a4.1 (Net.mk a4.2.1 a4.2.2.1 a4.2.2.2.1) a4.2.2.2.2.1 a4.2.2.2.2.2),0)))
def Z5G (n:Net):Option (Net×(List (List Bound))×Bool×Int) :=
 (Z2H n).bind λx1=>
 (bif (x1 != 0) then
  some ((Net.mk 0 [] []),[],false,230)
 else
  (Zx n).bind λx2=>
  some (x2.1,x2.2.1,x2.2.2,0))
def ZM (more:Con):Net :=
 Net.mk 3 [Form.mk 1 1 [[Span.mk 0 0]] [],Form.mk 7 1 [[Span.mk 0 4]] []] [Con.mk 0 1 1 (Range.mk 1 1 true true),Con.mk 1 2 0 (Range.mk 2 3 true true),more]
def ZS (low:Int) (high:Int):Range :=
 (Range.mk low high true true)
def Z2a:Option (Bool) :=
 (Z3O (ZM (Con.mk 0 0 0 (Range.mk 0 0 false false))) 10).bind λx1=>
 (Z3O (ZM (Con.mk 0 2 0 (Range.mk 20 0 true false))) 10).bind λx2=>
 (at? ((ZM (Con.mk 0 2 1 (Range.mk 0 0 false false))).Cons) 2).bind λx3=>
 (Z3O (Net.mk ((ZM (Con.mk 0 2 1 (Range.mk 0 0 false false))).Vars) ((ZM (Con.mk 0 2 1 (Range.mk 0 0 false false))).Forms) [(Con.mk 0 2 0 (ZS 3 10)),x3]) 10).bind λx4=>
 (
  (bif (((((((x1.2 != 0)||(x1.1.Kind != 1))||((x1.1.Ticks.length:Int) != 3))||(x2.2 != 0))||(x2.1.Kind != 2))||(x4.2 != 0))||((x4.1.Net.Cons.length:Int) != 2)) then
   some true
  else
   (at? x1.1.Ticks 0).bind λx5=>
   some ((x5.length:Int) != 3))).bind λ(y1:Bool)=>
 (
  (bif y1 then
   some true
  else
   (at? x1.1.Ticks 2).bind λx6=>
   some ((x6.length:Int) != 3))).bind λ(y2:Bool)=>
 (bif y2 then
  some false
 else
  (at? x1.1.Ticks 0).bind λx7=>
  (at? x7 2).bind λx8=>
  (
   (bif ((x8.Inf==0)&&((x8.N==14)&&true)) then
    (at? x1.1.Ticks 2).bind λx9=>
    (at? x9 0).bind λx10=>
    some ((x10.Inf==0)&&((x10.N==(-5))&&true))
   else
    some false)).bind λ(y3:Bool)=>
  (
   (bif y3 then
    (at? x4.1.Net.Cons 1).bind λx11=>
    some ((x11.Range.Low==((ZS 0 2).Low))&&((x11.Range.High==((ZS 0 2).High))&&((x11.Range.HasLow==((ZS 0 2).HasLow))&&((x11.Range.HasHigh==((ZS 0 2).HasHigh))&&true))))
   else
    some false)).bind λ(y4:Bool)=>
  some y4)
def Z0U:Bool:=true
def Z1y (a:Range) (b:Range):Option (Range×Bool) :=
 (
  (bif (b.HasLow&&((!a.HasLow)||(decide (b.Low>a.Low)))) then
   some (b.Low,true)
  else
   some (a.Low,a.HasLow))).bind λ(y1:Int×Bool)=>
 (
  (bif (b.HasHigh&&((!a.HasHigh)||(decide (b.High<a.High)))) then
   some (b.High,true)
  else
   some (a.High,a.HasHigh))).bind λ(y2:Int×Bool)=>
 (bif ((y1.2&&y2.2)&&(decide (y1.1>y2.1))) then
  some ((Range.mk 0 0 false false),false)
 else
  some ((Range.mk y1.1 y2.1 y1.2 y2.2),true))
def Z0p.s0 (n:Net) (s1:Int):Option ((Int)⊕(Jx (Unit) (Bool))) :=
 (bif (decide (s1<(n.Cons.length:Int))) then
  (at? n.Cons s1).bind λx2=>
  (bif ((((decide (x2.Range.Low>200))||(decide (x2.Range.Low<(-200))))||(decide (x2.Range.High>200)))||(decide (x2.Range.High<(-200)))) then
   some (.inr (.ret false))
  else
   some (.inl (w64 (s1+1))))
 else
  some (.inr (.go ())))
def Z0p (n:Net):Option (Bool) :=
 (Zh n).bind λx1=>
 (bif ((!x1)||(decide (n.Vars>5))) then
  some false
 else
  (loopO (Z0p.s0 n) 0).bind λ(y1:Jx (Unit) (Bool))=>
  y1.elim (λr'=>
    some r') λa2=>
  some true)
def ZX (a:Bound) (b:Bound):Bound :=
 (bif ((a.Inf==1)||((b.Inf==0)&&(decide (b.N<=a.N)))) then
  b
 else
  a)
def ZC.s0 (n:Net) (s2:Int×(List Bound)):Option ((Int×(List Bound))⊕((List Bound))) :=
 (bif (decide (s2.1<n.Vars)) then
  (
   (
    (bif (0==s2.1) then
     (app? 16 s2.2 [(Bound.mk 0 0)]).bind λx1=>
     some x1
    else
     (app? 16 s2.2 [(Bound.mk 1 0)]).bind λx2=>
     some x2)).bind λ(y3:(List Bound))=>
   some y3).bind λ(y2:(List Bound))=>
  some (.inl ((w64 (s2.1+1)),y2))
 else
  some (.inr s2.2))
def ZC.s2 (n:Net) (s3:Int×(List (List Bound))) (s5:Int×(List Bound)):Option ((Int×(List Bound))⊕((List Bound))) :=
 (bif (decide (s5.1<n.Vars)) then
  (
   (
    (bif (s3.1==s5.1) then
     (app? 16 s5.2 [(Bound.mk 0 0)]).bind λx4=>
     some x4
    else
     (app? 16 s5.2 [(Bound.mk 1 0)]).bind λx5=>
     some x5)).bind λ(y7:(List Bound))=>
   some y7).bind λ(y6:(List Bound))=>
  some (.inl ((w64 (s5.1+1)),y6))
 else
  some (.inr s5.2))
def ZC.s1 (n:Net) (s3:Int×(List (List Bound))):Option ((Int×(List (List Bound)))⊕((List (List Bound)))) :=
 (bif (decide (s3.1<n.Vars)) then
  (loopO (ZC.s2 n s3) (0,[])).bind λ(y5:(List Bound))=>
  (app? 24 s3.2 [y5]).bind λx6=>
  some (.inl ((w64 (s3.1+1)),x6))
 else
  some (.inr s3.2))
def ZC.s3 (n:Net) (s6:Int×(List (List Bound))):Option ((Int×(List (List Bound)))⊕((List (List Bound)))) :=
 (bif (decide (s6.1<(n.Cons.length:Int))) then
  (
   (
    (at? n.Cons s6.1).bind λx7=>
    (at? n.Forms x7.Form).bind λx8=>
    (
     (bif x7.Range.HasHigh then
      (at? s6.2 x7.X).bind λx9=>
      (Z1V x8 x7.Range.High).bind λx10=>
      (at? s6.2 x7.X).bind λx11=>
      (at? x11 x7.Y).bind λx12=>
      (at? x9 x7.Y).bind λx13=>
      some (s6.2.set (x7.X).toNat (x9.set (x7.Y).toNat (ZX x10 x12)))
     else
      some s6.2)).bind λ(y11:(List (List Bound)))=>
    (bif x7.Range.HasLow then
     (Z16 x8 x7.Range.Low).bind λx14=>
     (at? y11 x7.Y).bind λx15=>
     (at? y11 x7.Y).bind λx16=>
     (at? x16 x7.X).bind λx17=>
     (at? x15 x7.X).bind λx18=>
     some (y11.set (x7.Y).toNat (x15.set (x7.X).toNat (ZX (Bound.mk (IntKind.i8.wrap (0-x14.Inf)) (w64 (0-x14.N))) x17)))
    else
     some y11)).bind λ(y10:(List (List Bound)))=>
   some y10).bind λ(y9:(List (List Bound)))=>
  some (.inl ((w64 (s6.1+1)),y9))
 else
  some (.inr s6.2))
def ZC.s4 (n:Net) (s7:Int):Option ((Int)⊕(Unit)) :=
 (bif (decide (s7<(n.Cons.length:Int))) then
  (
   (
    (at? n.Cons s7).bind λx19=>
    (at? n.Forms x19.Form).bind λx20=>
    (
     (bif x19.Range.HasHigh then
      (at? ([] : List ((List Bound))) x19.X).bind λx21=>
      none
     else
      some ())).bind λ(y15:Unit)=>
    (bif x19.Range.HasLow then
     (Z16 x20 x19.Range.Low).bind λx22=>
     (at? ([] : List ((List Bound))) x19.Y).bind λx23=>
     none
    else
     some ())).bind λ(y14:Unit)=>
   some ()).bind λ(y13:Unit)=>
  some (.inl (w64 (s7+1)))
 else
  some (.inr ()))
def ZC (n:Net):Option ((List (List Bound))) :=
 (bif (decide (0<n.Vars)) then
  (loopO (ZC.s0 n) (0,[])).bind λ(y1:(List Bound))=>
  (app? 24 [] [y1]).bind λx3=>
  (loopO (ZC.s1 n) ((w64 (0+1)),x3)).bind λ(y4:(List (List Bound)))=>
  (loopO (ZC.s3 n) (0,y4)).bind λ(y8:(List (List Bound)))=>
  some y8
 else
  (loopO (ZC.s4 n) 0).bind λ(y12:Unit)=>
  some [])
def Z1a (n:Net):Option ((List (List Bound))×Bool) :=
 (ZC n).bind λx1=>
 (ZY x1).bind λx2=>
 some (x2.1,x2.2)
def Zf.s0 (n:Net) (x4:Net×(List (List Bound))×Bool×Int) (x5:(List (List Bound))×Bool) (s1:Int×(List Range)):Option ((Int×(List Range))⊕(Jx ((List Range)) (Bool))) :=
 (bif (decide (s1.1<(n.Cons.length:Int))) then
  (
   (
    (at? n.Cons s1.1).bind λx7=>
    (at? x5.1 x7.Y).bind λx8=>
    (at? x8 x7.X).bind λx9=>
    (at? n.Forms x7.Form).bind λx10=>
    (at? x5.1 x7.X).bind λx11=>
    (at? x11 x7.Y).bind λx12=>
    (Z2C x10 (Bound.mk (IntKind.i8.wrap (0-x9.Inf)) (w64 (0-x9.N))) x12).bind λx13=>
    (bif (x13.2.2 != 0) then
     some (.ret false)
    else
     (
      (bif x13.2.1 then
       (Z1y x7.Range x13.1).bind λx14=>
       (at? s1.2 s1.1).bind λx15=>
       some (x14.2,(s1.2.set (s1.1).toNat x14.1))
      else
       some (x13.2.1,s1.2))).bind λ(y5:Bool×(List Range))=>
     (bif (!y5.1) then
      some (.ret (((!x4.2.2.1)&&((x4.2.1.length:Int)==0))&&Z0U))
     else
      some (.go y5.2)))).bind λ(y4:Jx ((List Range)) (Bool))=>
   y4.elim (λr'=>
     some (.ret r')) λa6=>
   some (.go a6)).bind λ(y3:Jx ((List Range)) (Bool))=>
  y3.elim (λr'=>
    some (.inr (.ret r'))) λa7=>
  some (.inl ((w64 (s1.1+1)),a7))
 else
  some (.inr (.go s1.2)))
def Zf.s1 (n:Net) (x4:Net×(List (List Bound))×Bool×Int) (a8:(List Range)) (s2:Int):Option ((Int)⊕(Jx (Unit) (Bool))) :=
 (bif (decide (s2<(x4.1.Cons.length:Int))) then
  (at? x4.1.Cons s2).bind λx17=>
  (at? a8 s2).bind λx18=>
  (
   (bif (!((x17.Range.Low==x18.Low)&&((x17.Range.High==x18.High)&&((x17.Range.HasLow==x18.HasLow)&&((x17.Range.HasHigh==x18.HasHigh)&&true))))) then
    some true
   else
    (at? n.Cons s2).bind λx19=>
    some (x17.X != x19.X))).bind λ(y8:Bool)=>
  (
   (bif y8 then
    some true
   else
    (at? n.Cons s2).bind λx20=>
    some (x17.Y != x20.Y))).bind λ(y9:Bool)=>
  (
   (bif y9 then
    some true
   else
    (at? n.Cons s2).bind λx21=>
    some (x17.Form != x21.Form))).bind λ(y10:Bool)=>
  (bif y10 then
   some (.inr (.ret false))
  else
   some (.inl (w64 (s2+1))))
 else
  some (.inr (.go ())))
def Zf (a:Range) (b:Range) (n:Net):Option (Bool) :=
 (
  (bif ((((a.HasLow||(a.Low==0))&&(a.HasHigh||(a.High==0)))&&(b.HasLow||(b.Low==0)))&&(b.HasHigh||(b.High==0))) then
   (Z3s a b).bind λx1=>
   (Z1y a b).bind λx2=>
   (bif ((!((x1.1.Low==x2.1.Low)&&((x1.1.High==x2.1.High)&&((x1.1.HasLow==x2.1.HasLow)&&((x1.1.HasHigh==x2.1.HasHigh)&&true)))))||(x1.2 != x2.2)) then
    some (.ret false)
   else
    some (.go ()))
  else
   some (.go ()))).bind λ(y1:Jx (Unit) (Bool))=>
 y1.elim (λr'=>
   some r') λa2=>
 (Z0p n).bind λx3=>
 (bif (!x3) then
  some Z0U
 else
  (Z5G n).bind λx4=>
  (Z1a n).bind λx5=>
  (bif (x4.2.2.2 != 0) then
   some false
  else
   (bif (!x5.2) then
    some (((!x4.2.2.1)&&((x4.2.1.length:Int)==0))&&Z0U)
   else
    (new? 24 (n.Cons.length:Int) (Range.mk 0 0 false false)).bind λx6=>
    (loopO (Zf.s0 n x4 x5) (0,x6)).bind λ(y2:Jx ((List Range)) (Bool))=>
    y2.elim (λr'=>
      some r') λa8=>
    (
     (bif (!x4.2.2.1) then
      some true
     else
      (Z04 x4.2.1 x5.1).bind λx16=>
      some (!x16))).bind λ(y6:Bool)=>
    (bif (((y6||((x4.1.Cons.length:Int) != (a8.length:Int)))||(x4.1.Vars != n.Vars))||((x4.1.Forms.length:Int) != (n.Forms.length:Int))) then
     some false
    else
     (loopO (Zf.s1 n x4 a8) 0).bind λ(y7:Jx (Unit) (Bool))=>
     y7.elim (λr'=>
       some r') λa10=>
     some Z0U))))
end
end Go.Dn
