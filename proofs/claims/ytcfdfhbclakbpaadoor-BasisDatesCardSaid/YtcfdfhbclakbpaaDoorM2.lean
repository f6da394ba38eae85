/- Part 2 of what the row stands on. -/
import Derived.Below
import Derived.ChangeArms
import Derived.ChangeOld
import Derived.SizedLaws
import Derived.KernelRfl
import Derived.Test.YtcfdfhbclakbpaaDoorProg
import Derived.Test.YtcfdfhbclakbpaaDoorRows
import Derived.Tactics
import Derived.Tactics2
import Derived.Defers
import Derived.Laws.Pointers
import Derived.Laws.LoneSync
import Derived.RegionTactic
import Derived.RegionCalls
import Derived.ChangeAlike
import Derived.Test.YtcfdfhbclakbpaaDoorM1
set_option linter.unusedVariables false
set_option linter.unusedSimpArgs false
namespace Go.Dn
open Go Go.ChangeShapes
def consec (P:Program):Nat->List Field->Option Nat
 | o,[]=>some o
 | o,f::fs=>if f.offset=o then consec P (o+P.cellsOf f.type) fs else none
def supp (P:Program):Nat->TypeId->Bool
 | 0,_=>false
 | d+1,t=>
  match P.underlying t with
  | some .bool=>P.cellsOf t==1
  | some (.int _)=>P.cellsOf t==1
  | some .string=>P.cellsOf t==1
  | some (.slice e)=>P.cellsOf t==1&&P.cellsOf e != 0&&supp P d e
  | some (.struct fs)=>fs.toList.all (λf=>supp P d f.type)&&(consec P 0 fs.toList==some (P.cellsOf t))
  | _=>false
def OKC (P:Program):Nat->TypeId->List FV->Prop
 | 0,_,_=>False
 | d+1,t,ys=>
  match P.underlying t with
  | some .bool=>∃ b,ys=[.bool b]
  | some (.int k)=>∃ m,ys=[.int k m]/\(Lit.int k m).wf=true
  | some .string=>∃ s,ys=[.str s]/\s.size<=maxLen
  | some (.slice e)=>∃ xs,ys=[.sl xs]/\xs.length*P.bytesOf e<=reachBytes/\∀ x∈xs,OKC P d e x
  | some (.struct fs)=>ys.length=P.cellsOf t/\∀ f∈fs.toList,OKC P d f.type ((ys.drop f.offset).take (P.cellsOf f.type))
  | _=>False
section
variable {H:Type} {enc:TypeId×Value->H} {P:Program} {w:World} {base:Nat} {spare:Nat->Bool} {held:Bool} {Im:Nat->Prop}
def Cov (w:World) (Im:Nat->Prop) (ys:List FV) (cs:List Value):Prop:=ys.length=cs.length/\∀ (i:Nat) (y:FV) (v:Value),ys[i]? = some y->cs[i]? = some v->FVR w Im y v
theorem Cov.one {y:FV} {v:Value} (h:FVR w Im y v):Cov w Im [y] [v]:=⟨rfl,λi y' v' hy hv=>by
 cases i with
 | zero=>cases hy;cases hv;exact h
 | succ i=>simp at hy⟩
theorem consec_le:∀ {fs:List Field} {o m:Nat},consec P o fs=some m->o<=m
 | [],o,m,h=>by simp [consec] at h;omega
 | f::fs,o,m,h=>by
  simp only [consec] at h
  split at h
  ·have:=consec_le h;omega
  ·cases h
theorem fields_ok {d n:Nat} {cs:List Value} (ih:∀ (t:TypeId) (cs:List Value) (x:DataW H×List MemPlace),supp P d t=true->DataW.trod enc P w base spare held n t cs=some x->(∀ p∈x.2,Im p.block)->(∀ n∈x.1.weights P t,n<=reachBytes)->∃ ys,Cov w Im ys cs/\OKC P d t ys) :
  ∀ (fs:List Field) (o m:Nat),consec P o fs=some m->m<=cs.length->(∀ f∈fs,supp P d f.type=true) ->
   (∀ f∈fs,∃ x,DataW.trod enc P w base spare held n f.type ((cs.drop f.offset).take (P.cellsOf f.type))=some x/\(∀ p∈x.2,Im p.block)/\∀ n∈x.1.weights P f.type,n<=reachBytes) ->
   ∃ ys,Cov w Im ys ((cs.drop o).take (m-o))/\∀ f∈fs,o<=f.offset/\OKC P d f.type ((ys.drop (f.offset-o)).take (P.cellsOf f.type))
 | [],o,m,hc,hm,_,_=>by
  simp [consec] at hc;subst hc;exact ⟨[],⟨by simp,by simp⟩,by simp⟩
 | f::fs,o,m,hc,hm,hs,hx=>by
  simp only [consec] at hc
  split at hc
  ·rename_i ho;subst ho;obtain ⟨x,hx1,hx2,hx3⟩:=hx f YU;obtain ⟨ys,⟨hl,hv⟩,hok⟩:=ih f.type _ x (hs f YU) hx1 hx2 hx3;have hle:=consec_le hc;obtain ⟨zs,⟨hl2,hv2⟩,hok2⟩:=fields_ok ih fs _ m hc hm (λg hg=>hs g (YR _ hg)) (λg hg=>hx g (YR _ hg));simp only [Yr,Y0T] at hl hl2;have hy:ys.length=P.cellsOf f.type:=by omega
   refine ⟨ys++zs,⟨by simp only [Yd,Yr,Y0T];omega,λi y v h1 h2=>?_⟩,λg hg=>?_⟩
   ·by_cases hi:i<ys.length
    ·rw [YM hi] at h1;refine hv i y v h1 ?_;rw [YO] at h2 ⊢;rw [if_pos (by omega)] at h2 ⊢
     exact h2
    ·rw [YS (by omega)] at h1
     have hi2:i-ys.length<zs.length:=by
      rcases YT (i-ys.length) zs.length with h|h
      ·exact h
      ·rw [Yp h] at h1;cases h1
     refine hv2 (i-ys.length) y v h1 ?_;rw [YO,YY] at h2 ⊢;rw [if_pos (by omega)] at h2 ⊢
     rw [<- h2]
     congr 1;omega
   ·rcases List.mem_cons.1 hg with rfl|hg
    ·refine ⟨YG _,?_⟩;rw [Nat.sub_self,List.drop_zero,Yo (by omega),Y06 (by omega)]
     exact hok
    ·obtain ⟨h1,h2⟩:=hok2 g hg;refine ⟨by omega,?_⟩
     have:(ys++zs).drop (g.offset-f.offset)=zs.drop (g.offset-(f.offset+P.cellsOf f.type)):=by
      rw [List.drop_append,List.drop_eq_nil_of_le (by omega),List.nil_append]
      congr 1;omega
     rw [this];exact h2
  ·cases hc
theorem Z5b {e:TypeId}:∀ {ds:List (DataW H)} {d:DataW H},d∈ds->∀ n∈d.weights P e,n∈DataW.weightsAll P e ds
 | d0::ds,d,h,n,hn=>by
  simp only [DataW.weightsAll,Ya];rcases List.mem_cons.1 h with rfl|h
  ·exact .inl hn
  ·exact .inr (Z5b h n hn)
def Sized (P:Program) (t:TypeId) (d:DataW H):Prop:=∀ n∈d.weights P t,n<=reachBytes
theorem OKC.length:∀ {d:Nat} {t:TypeId} {ys:List FV},supp P d t=true->OKC P d t ys->ys.length=P.cellsOf t
 | 0,t,ys,h,_=>by simp [supp] at h
 | d+1,t,ys,h,ho=>by
  unfold supp at h;unfold OKC at ho
  split at h
  all_goals (rename_i hu;simp only [hu] at ho)
  ·obtain ⟨b,rfl⟩:=ho;simp at h;simp [h]
  ·obtain ⟨b,rfl,_⟩:=ho;simp at h;simp [h]
  ·obtain ⟨b,rfl,_⟩:=ho;simp at h;simp [h]
  ·obtain ⟨b,rfl,_⟩:=ho;simp at h;simp [h]
  ·exact ho.1
theorem Z4w:∀ (d n:Nat) (t:TypeId) (cs:List Value) (x:DataW H×List MemPlace),supp P d t=true->DataW.trod enc P w base spare held n t cs=some x->(∀ p∈x.2,Im p.block)->(∀ n∈x.1.weights P t,n<=reachBytes)->∃ ys,Cov w Im ys cs/\OKC P d t ys
 | 0,n,t,cs,x,hs,h,hp,hw=>by simp [supp] at hs
 | d+1,n,t,cs,x,hs,h,hp,hw=>by
  unfold supp at hs
  split at hs
  ·rename_i hu;cases n with
   | zero=>simp [DataW.trod] at h
   | succ n=>
    simp only [DataW.trod,hu] at h
    split at h<;>simp_all
    rename_i b;exact ⟨[.bool b],Cov.one (.bool b),by simp [OKC,hu]⟩
  ·rename_i k hu;cases n with
   | zero=>simp [DataW.trod] at h
   | succ n=>
    simp only [DataW.trod,hu] at h
    split at h<;>try (simp_all;done)
    rename_i k2 m he1 ;simp only [YA,TypeDesc.int.injEq] at he1;subst he1
    split at h
    ·rename_i k' n' hk;obtain ⟨rfl,hwf⟩:=hk;exact ⟨[.int _ _],Cov.one (.int _ _),by simp [OKC,hu,hwf]⟩
    ·cases h
  ·rename_i hu;cases n with
   | zero=>simp [DataW.trod] at h
   | succ n=>
    simp only [DataW.trod,hu] at h
    split at h<;>try (simp_all;done)
    split at h
    ·rename_i s hk;exact ⟨[.str _],Cov.one (.str _),by simp [OKC,hu,hk]⟩
    ·cases h
  ·rename_i e hu;simp only [YD,beq_iff_eq,bne_iff_ne,ne_eq] at hs;rcases DataW.trod_slice hu h with ⟨rfl,rfl⟩|⟨a,len,cap,elems,rest,m,rfl,rfl,rfl,hb,hl,hm,hlen,hel,hsp,hns⟩
   ·exact ⟨[.sl []],Cov.one .nil,by simp [OKC,hu]⟩
   ·by_cases h0:len=0
    ·subst h0;exact ⟨[.sl []],Cov.one (.empty a cap),by simp [OKC,hu]⟩
    ·have each:∀ i,i<len->∃ cs' ys,w.cells? base (a.add (i*P.cellsOf e)) (P.cellsOf e)=some cs'/\Cov w Im ys cs'/\OKC P d e ys:=by
      intro i hi;have h1:=hel i hi;obtain ⟨y,hy⟩ : ∃ y,elems[i]? = some y:=⟨_,YB (by omega)⟩
      rw [hy,Y9] at h1;obtain ⟨cs',hcs,ht⟩:=h1;obtain ⟨ys,h2,h3⟩:=Z4w d m e cs' y hs.2 ht (λp hpm=>hp p (by
       refine Yy _ (List.mem_flatMap.2 ⟨y,Y01 _ (YH hy),hpm⟩))) (λn hn=>hw n (by
       simp only [DataW.weights,hu,List.mem_cons,Ya];exact .inr (.inl (Z5b (List.mem_map.2 ⟨y,YH hy,rfl⟩) n hn))))
      exact ⟨cs',ys,hcs,h2,h3⟩
     let F:Nat->List FV:=λi=>if hi:i<len then (each i hi).choose_spec.choose else []
     let C:Nat->List Value:=λi=>if hi:i<len then (each i hi).choose else []
     have hF:∀ i,i<len->w.cells? base (a.add (i*P.cellsOf e)) (P.cellsOf e)=some (C i)/\Cov w Im (F i) (C i)/\OKC P d e (F i):=by
      intro i hi;simp only [F,C,dif_pos hi];exact (each i hi).choose_spec.choose_spec
     have hFl:∀ i,i<len->(F i).length=P.cellsOf e:=λi hi=>OKC.length hs.2 (hF i hi).2.2;have hxs:∀ y∈(List.range len).map F,∃ i,i<len/\y=F i:=λy hy=>by
      obtain ⟨i,hi,rfl⟩:=List.mem_map.1 hy;exact ⟨i,List.mem_range.1 hi,rfl⟩
     refine ⟨[.sl ((List.range len).map F)],Cov.one ?_,?_⟩
     ·by_cases hz:P.cellsOf e=0
      ·exact absurd hz hs.1.2
      ·have hsp0:a.spot=none:=by
        have h1:=(World.cells?_some (hF 0 (by omega)).1).2.2 0 (by omega)
        have hl0:=(World.cells?_some (hF 0 (by omega)).1).2.1
        simp only [Nat.zero_mul,Addr.add,if_true] at h1;unfold World.cell? at h1
        split at h1
        ·split at h1
         ·have:(C 0)[0]? = none:=h1.symm;rw [List.getElem?_eq_none_iff] at this;omega
         ·rename_i hq;simpa using hq
        ·have:(C 0)[0]? = none:=h1.symm;rw [List.getElem?_eq_none_iff] at this;omega
       obtain ⟨bl,off,spot⟩:=a;simp only at hsp0;subst hsp0;have hcov:=FVR.sl (w:=w) (Imm:=Im) ((List.range len).map F) bl off cap (P.cellsOf e) (λi j=>(C i).getD j Go.undef) ?_ (by simpa using hl) (λy hy=>by
        obtain ⟨i,hi,rfl⟩:=hxs y hy;exact hFl i hi) (λi j hi hj=>?_) (λi j y x h1 h2=>?_)
       ·simpa using hcov
       ·refine hp (.cell bl (off+0)) (Y01 _ ?_);simp only [MemPlace.row,List.mem_map,List.mem_range];refine ⟨0,?_,rfl⟩;exact Nat.mul_pos (by omega) (by omega)
       ·simp only [Yl,List.length_range] at hi;have h1:=(World.cells?_some (hF i hi).1).2.2 j hj;have hl0:=(World.cells?_some (hF i hi).1).2.1;have e1:(Addr.add (Addr.add ⟨bl,off,none⟩ (i*P.cellsOf e)) j)=⟨bl,off+i*P.cellsOf e+j,none⟩:=by
         simp only [Z1J]
        rw [e1] at h1;rw [h1,YB (by omega)]
        simp [List.getD,YB (show j<(C i).length by omega)]
       ·rw [YP,Y3] at h1;obtain ⟨i',hi',rfl⟩:=h1;have hi2:=List.mem_range.1 (YH hi');have:i'=i:=by
         rw [List.getElem?_eq_some_iff] at hi';obtain ⟨q1,q2⟩:=hi'
         simpa using q2.symm
        subst this;have hj:j<(C i').length:=by
         rw [<- (hF i' hi2).2.1.1];exact (List.getElem?_eq_some_iff.1 h2).1
        refine (hF i' hi2).2.1.2 j x _ h2 ?_;rw [YB hj];simp [List.getD,YB hj]
     ·simp only [OKC,hu];refine ⟨_,rfl,?_,λy hy=>?_⟩
      ·have h1:=hw ((elems.length+rest.length)*P.bytesOf e) (by simp [DataW.weights,hu])
       refine YW (YQ _ ?_) h1
       simp;omega
      obtain ⟨i,hi,rfl⟩:=hxs y hy;exact (hF i hi).2.2
  ·rename_i fs hu;simp only [YD,beq_iff_eq,YJ] at hs;obtain ⟨xs,m,rfl,rfl,hl,hx,hf⟩:=DataW.trod_struct hu h;obtain ⟨ys,hc,ho⟩:=fields_ok (cs:=cs) (λt cs x h1 h2 h3 h4=>Z4w d m t cs x h1 h2 h3 h4) fs.toList 0 (P.cellsOf t) hs.2 (by omega) hs.1 (λf hfm=>by
    obtain ⟨i,hi⟩:=Yc hfm;have hi':fs[i]? = some f:=by simpa using hi
    have h1:=hf i f hi';have hlt:i<xs.length:=by
     have:=(Array.getElem?_eq_some_iff.1 hi').1;omega
    rw [YB hlt] at h1;exact ⟨_,h1,λp hpm=>hp p (List.mem_flatMap.2 ⟨_,Y0F hlt,hpm⟩),λn hn=>hw n (by
     simp only [DataW.weights,hu];exact DataW.weights_mem_each (j:=i) (t:=f.type) (d:=(xs[i]).1) (by simp [hi]) (by simp [hlt]) n hn)⟩)
   rw [List.drop_zero,Nat.sub_zero,Y06 (by omega)] at hc
   refine ⟨ys,hc,?_⟩;simp only [OKC,hu];exact ⟨hc.1.trans hl,λf hfm=>by simpa using (ho f hfm).2⟩
  ·cases hs
end
def okI (k:IntKind) (x:Int):Prop:=k.min<=x/\x<=k.max
def okB (_:Bool):Prop:=True
def okS (x:ByteArray):Prop:=x.size<=maxLen
def okL {α:Type} (b:Nat) (p:α->Prop) (xs:List α):Prop:=xs.length*b<=reachBytes/\∀ x∈xs,p x
def Dec (P:Program) {α:Type} (t:TypeId) (c:α->List FV) (ok:α->Prop):Prop:=∀ d ys,OKC P d t ys->∃ x,ys=c x/\ok x
section
variable {P:Program} {t e:TypeId}
theorem Dec.int {k:IntKind} (h:P.underlying t=some (.int k)):Dec P t (cI k) (okI k):=λd ys ho=>by
 cases d with
 | zero=>exact ho.elim
 | succ d=>
  simp only [OKC,h] at ho;obtain ⟨m,rfl,hw⟩:=ho;exact ⟨m,rfl,by simpa [Lit.wf,okI] using hw⟩
theorem Dec.bool (h:P.underlying t=some .bool):Dec P t cB okB:=λd ys ho=>by
 cases d with
 | zero=>exact ho.elim
 | succ d=>
  simp only [OKC,h] at ho;obtain ⟨m,rfl⟩:=ho;exact ⟨m,rfl,trivial⟩
theorem Dec.str (h:P.underlying t=some .string):Dec P t cS okS:=λd ys ho=>by
 cases d with
 | zero=>exact ho.elim
 | succ d=>
  simp only [OKC,h] at ho;obtain ⟨m,rfl,hw⟩:=ho;exact ⟨m,rfl,hw⟩
theorem Dec.sl {α:Type} {c:α->List FV} {ok:α->Prop} {b:Nat} (h:P.underlying t=some (.slice e)) (hb:P.bytesOf e=b) (he:Dec P e c ok):Dec P t (cL c) (okL b ok):=λd ys ho=>by
 cases d with
 | zero=>exact ho.elim
 | succ d=>
  simp only [OKC,h] at ho;obtain ⟨xs,rfl,hl,hx⟩:=ho;have:∀ xs:List (List FV),(∀ x∈xs,OKC P d e x)->∃ as_:List α,xs=as_.map c/\∀ a∈as_,ok a:=by
   intro xs
   induction xs with
   | nil=>intro _;exact ⟨[],rfl,by simp⟩
   | cons x xs ih=>
    intro hx;obtain ⟨a,rfl,ha⟩:=he d x (hx x YU);obtain ⟨as_,rfl,has⟩:=ih λy hy=>hx y (YR _ hy);exact ⟨a::as_,rfl,λb hb=>by
     rcases List.mem_cons.1 hb with rfl|hb
     ·exact ha
     ·exact has b hb⟩
  obtain ⟨as_,rfl,has⟩:=this xs hx;exact ⟨as_,rfl,by subst hb;simpa using hl,has⟩
end
theorem pvr_one {P:Program} {t:TypeId} {W:World} {base:Nat} {v:Value} {s:St} {y:FV} (hu:(match P.underlying t with|some .bool|some (.int _)|some .string|some (.slice _)=>true|_=>false)=true) (hval:Value.okWide P W .any base t v) (hs:s.w=W) (hc:Cov W s.imm [y] v.cells.toList):PVR s (.v y) v:=by
 subst hs
 have hv:v.cells.toList=[v]:=by
  unfold Value.okWide Cell.okWide Cell.ok at hval
  split at hu
  all_goals (first|(rename_i h1;rw [h1] at hval)|skip)
  ·cases v<;>first|rfl|exact hval.elim
  ·cases v<;>first|rfl|exact hval.elim
  ·cases v<;>first|rfl|exact hval.elim
  ·cases v<;>first|rfl|exact hval.elim
  ·cases hu
 rw [hv] at hc
 exact .v (hc.2 0 y v rfl rfl)
end Go.Dn

namespace Go.Dn
open Go
def cloneA (t b : TypeId) : Code := .region 0 #[{ dst := some 2, op := .assign (.const (.slice none 0 0)), type := t, pos := "slices.go:355", after := #[], guard := none }] false
def Z1e (t b : TypeId) : Array Oper := #[{ dst := some 3, op := .move (.tmp 0), type := t, pos := "slices.go:357", after := #[], guard := none },
 { dst := some 4, op := .binOp .eql t (.tmp 3) (.const (.slice none 0 0)) t, type := b, pos := "slices.go:357", after := #[{ on := 0, ground := .data }], guard := none }]
def cloneC (t : TypeId) : Code := .cond (.tmp 4) ((Code.region 2 #[{ dst := some 2, op := .assign (.const (.slice none 0 0)), type := t, pos := "slices.go:358", after := #[], guard := none }] false).seq .ret) .skip
def cloneD (t:TypeId):Code:=(Code.region 3
 #[{ dst := some 5, op := .buildSlice t 0 #[], type := t, pos := "slices.go:362", after := #[], guard := none },
  { dst := some 6, op := .move (.tmp 0), type := t, pos := "slices.go:362", after := #[], guard := none },
  { dst := some 7, op := .call { callee := .builtin .append, args := #[.tmp 5, .tmp 6], argTypes := #[t, t] }, type := t, pos := "slices.go:362", after := #[{ on := 0, ground := .data }, { on := 1, ground := .data }], guard := none },
  { dst := some 2, op := .assign (.tmp 7), type := t, pos := "slices.go:362", after := #[{ on := 2, ground := .data }, { on := 2, ground := .chain }, { on := 0, ground := .phase }, { on := 1, ground := .phase }, { on := 2, ground := .phase }], guard := none }] false).seq .ret
def cloneBody (t b:TypeId):Code:=(cloneA t b).seq (((Code.region 1 (Z1e t b) false).seq (cloneC t)).seq (cloneD t))
structure CloneT (P:Program) (t el:TypeId) (sz by_:Nat) (zs:List PV):Prop where
 ht:tslice P t=some el
 hs:tsize P el=some sz
 hb:tbytes P el=some by_
 hz:tzero P el=some zs
 hc:(sz != 0&&by_ != 0&&zs.length==sz)=true
variable {X:Ctx} {fn:FuncId} {t b el:TypeId} {sz by_:Nat} {zs:List PV}
theorem cloneD_runs (hT:CloneT X.P t el sz by_ zs) {xs:List (List FV)} (hl:xs.all (λy=>y.length==sz)=true) (hroom:xs.length*by_<=room) {e:Env} {G:Heap} (h0:e 0 = .v (.sl xs)) :
  Runs X 8 fn (cloneD t) e G λx e' G'=>x = .ret/\∃ (lo hi:Nat) (L:List Res) (k:Nat),Has G' lo hi L/\L[k]? = some (.sl (e' 2) el sz xs true):=by
 have hc:=hT.hc
 simp only [YD,beq_iff_eq,bne_iff_ne,ne_eq] at hc
 have H:Hs G []:=Has.nil (YG _)
 obtain ⟨e0,rfl⟩:=(show Zd e [(0,.v (.sl xs))] from ⟨h0,trivial⟩).ex
 show Runs X 8 fn (Code.seq _ _) _ _ _
 apply Runs.then
 refine Runs.Za 4 rfl H ?_;intro b1 G H
 refine Ops.Z3H (zs:=zs) (sz:=sz) (pp:=[]) [] H (by omega) (by omega) hT.ht rfl hT.hs hT.hz (by simp only [YD,beq_iff_eq,bne_iff_ne,ne_eq];exact ⟨⟨hc.2,hc.1.1⟩,by simp⟩) rfl rfl rfl rfl ?_;intro G H
 refine Ops.move (v:=.v (.sl xs)) rfl rfl ?_
 refine Ops.appendS (v:=.buf (b1+0) 0 sz) (w:=.v (.sl xs)) (xs:=[]) (ys:=xs) H (by omega) (by omega) 0 rfl rfl rfl (.p hl) hT.ht hT.hs hT.hb hT.hz hT.hc (by simpa using hroom) nofun rfl ?_;intro w G H
 refine Ops.assign (v:=w) rfl rfl ?_
 apply Ops.nil
 apply Runs.ret
 exact ⟨rfl,_,_,_,0,H,rfl⟩
theorem cloneOps_wp {s:St} {e:Env} {a:Act} (hX:CtxOK X) (hG:Zg X s) (hi:Inv s) (he:EnvR s 8 e a) (hT:CloneT X.P t el sz by_ zs) {xs:List (List FV)} (h0:e 0 = .v (.sl xs)) {Q:Exit->Act->World->Prop}
  (hQ:∀ (o:Option Addr) (a':Act) (w':World) (D':Nat->Nat),(o=none->xs=[])->Then s 8 a (putD 8 (putD 8 e (some 3) (.v (.sl xs))) (some 4) (.v (.bool o.isNone))) ⟨s.G.nx+2,s.G.ent⟩ a' w' D'->Q .normal a' w') :
  (Code.region 1 (Z1e t b) false).wp X.P Q a s.w:=by
 refine (wpIn_wide (n:=0)).1 (wpIn_region ?_)
 have hi':=Z3B hi 2
 have he':=he.mono (Z0s (s:=s) 2)
 have hG':=hG.mono (Z0s (s:=s) 2)
 have st : Zm X (ZT X) 8 (Z1e t b) s.G.nx 0 { dst := some 3, op := .move (.tmp 0), type := t, pos := "slices.go:357", after := #[], guard := none } e (s.more 2).G = some (putD 8 e (some 3) (.v (.sl xs)), (s.more 2).G) := by
  simp only [Zm,ZP,Z1,Z0,h0,YE,Y4]
 have first:=stepO_ok (m:=0) (Q:=Q) (rd:=none) (s:=s.more 2) (a:=a) (callL_ok hX) hG' hi' he' (hi.nx _ (by omega)) (by simp only [St.more];omega) st (K:=wpOpsIn (Fw none) 0 X.P (Z1e t b) Q [1]) ?_
 ·have h0' : (Z1e t b)[0]? = some { dst := some 3, op := .move (.tmp 0), type := t, pos := "slices.go:357", after := #[], guard := none } := rfl
  have hr:List.range (Z1e t b).size=[0,1]:=rfl;rw [hr];simp only [wpOpsIn,h0'];exact first
 ·intro a1 w1 D1 ht;have hn := ht.env;have hw : Region.wanted ⟨some 4, .binOp .eql t (.tmp 3) (.const (.slice none 0 0)) t, b, "slices.go:357", #[{ on := 0, ground := .data }], none⟩ (yielded (Z1e t b) a1.tmps) = true := rfl
  have h1' : (Z1e t b)[1]? = some ⟨some 4, .binOp .eql t (.tmp 3) (.const (.slice none 0 0)) t, b, "slices.go:357", #[{ on := 0, ground := .data }], none⟩ := rfl
  simp only [wpOpsIn,h1'];rw [if_pos hw];have hp:PVR ⟨w1,(s.more 2).Y,(s.more 2).G,D1⟩ (.v (.sl xs)) (a1.eval (.tmp 3)):=by
   refine Z5 (X:=X) (hG.mono ((Z0s (s:=s) 2).trans ht.ev)) hn ?_;simp [Z0,putD,upd]
  obtain ⟨o, cap, hv, hcap, hf⟩ := sl_inv hp;have hs : ∀ o4 : Oper, o4 = ⟨some 4, .binOp .eql t (.tmp 3) (.const (.slice none 0 0)) t, b, "slices.go:357", #[{ on := 0, ground := .data }], none⟩ → o4.uponIn (Fw none) 0 X.P a1 (Z3b ⟨w1, (s.more 2).Y, (s.more 2).G, D1⟩ a1 (some 4) (.v (.bool o.isNone)) (s.more 2).G) Q ((o4.semAt (Fw none).round a1.eval).run X.P w1) := by
   intro o4 ho4;have hop:o4.op = .binOp .eql t (.tmp 3) (.const (.slice none 0 0)) t:=by rw [ho4]
   have hd4:o4.dst=some 4:=by rw [ho4]
   rw [Oper.semAt_eq _ _ _ (by intro c hc;rw [hop] at hc;cases hc)]
   simp only [execOp,hop];rw [<- hd4];refine Z0P (s:=⟨w1,(s.more 2).Y,(s.more 2).G,D1⟩) ht.inv ?_;rw [hv];have hg:(eqGuard .eql t (.tmp 3) (.const (.slice none 0 0)) (.slice o xs.length cap) (.slice none 0 0)).run X.P w1 = .ok () w1:=by simp [eqGuard]
   refine ⟨.bool o.isNone,?_,.v (.bool _)⟩;show (do eqGuard .eql t (.tmp 3) (.const (.slice none 0 0)) (.slice o xs.length cap) (.slice none 0 0);binOp .eql t (.slice o xs.length cap) (.slice none 0 0):Sem Value).run X.P w1=_;simp only [Sem.run_bind,hg,Result.andThen_ok];exact (Z0z (eqNil 9999 (Z04 hT.ht) o xs.length cap w1) (.inr (.inr (.inl ⟨_,_,_,_,_,_,rfl,rfl⟩)))).1
  refine Oper.wpIn_mono (K:=Z3b ⟨w1,(s.more 2).Y,(s.more 2).G,D1⟩ a1 (some 4) (.v (.bool o.isNone)) (s.more 2).G) (λa' w' hh=>?_) ⟨λ_ _=>trivial,hs _ rfl⟩;obtain ⟨v,rfl,D',h2,h3,h4⟩:=hh;refine hQ o _ w' D' (λho=>?_) ⟨h2,((Z0s (s:=s) 2).trans ht.ev).trans h3,(hn.mono h3).put h4,(Z4J _ _ _).trans ht.defers⟩
  subst ho;generalize hz:Value.slice none xs.length cap=z at hf;cases hf with
  | nil=>rfl
  | empty=>rfl
  | sl=>cases hz
theorem Z3K (hX:CtxOK X) {f:FuncId} {fu:Func} (hf:X.P.funcs[f]? = some fu) (hb:fu.body=some (cloneBody t b)) (hn:fu.ntmps=8) (hr:fu.results = #[.tmp 2]) (hg:∀ g,X.glob g=none)
  (hT:CloneT X.P t el sz by_ zs) {s:St} (hi:Inv s) {xs:List (List FV)} {v:Value} (hl:xs.all (λy=>y.length==sz)=true) (hroom:xs.length*by_<=room) (hv:PVR s (.v (.sl xs)) v) :
  Calls X.P f #[v] s.w λen w'=>∃ v',en = .returned v'/\Post s (.v (.sl xs)) s.G v' w':=by
 have hv1:PVRs s.under [.v (.sl xs)] #[v]:=⟨rfl,λi x hx=>by
  cases i with
  | zero=>cases hx;exact Z54 rfl hv
  | succ i=>simp at hx⟩
 have hiu:=Z58 hi
 have he:=env_of (s:=s.under) (k:=8) hv1
 have hG:∀ s,Zg X s:=λs g cells h=>by rw [hg] at h;cases h
 refine (callsIn_wide (n:=0)).1 (callsIn_of_wp_marks hf hb trivial ?_ rfl)
 rw [hn]
 refine wpIn_wide.2 ?_
 have fin:∀ e G a' w D (G3:Heap),Aft s.under 8 { tmps:=#[v]++Array.replicate (8-(#[v] : Array Value).size) undef,defers:=[] } e G a' w D->Zw G (e 2)=some (.v (.sl xs),G3) ->
   bodyPostM Fence.wide 0 X.P fu (λen w'=>∃ v',en = .returned v'/\Post s (.v (.sl xs)) s.G v' w') .ret a' w:=by
  intro e G a' w D G3 ht h4;refine leaves_ok (X:=X) (fu:=fu) (xs:=[e 2]) rfl ht (by rw [hr];rfl) λv w' hp=>⟨v,rfl,?_⟩
  exact Z61 hi hp h4
 refine wp_seq ?_
 refine wp_mono (code_wp (X:=X) (s:=s.under) hX (fn:=f) (hG _) hiu he (Q:=λex e' G'=>ex = .normal/\e' 0 = .v (.sl xs)) ?_) ?_
 ·show Runs X 8 f (Code.region 0 (List.toArray [_]) false) _ ⟨0,λ_=>.none⟩ _;refine Runs.region rfl ?_;refine Ops.assign (v:=.nils) rfl rfl ?_;exact Ops.nil ⟨rfl,rfl⟩
 rintro ex a1 w1 ⟨x1,e1,G1,D1,⟨rfl,k0⟩,rfl,ht1⟩
 simp only [Ex.out,Exit.then]
 refine wp_seq (wp_seq ?_)
 refine cloneOps_wp (s:=⟨w1,s.under.Y,G1,D1⟩) hX (hG _) ht1.inv ht1.env hT k0 ?_
 intro o a2 w2 D2 ho ht2
 have ht12:=ht1.trans ht2.aft
 simp only [Exit.then]
 generalize he2:putD 8 (putD 8 e1 (some 3) (.v (.sl xs))) (some 4) (.v (.bool o.isNone))=e2 at ht2 ht12
 have q0:e2 0 = .v (.sl xs):=by rw [<- he2];simpa [putD,upd] using k0
 have q4:e2 4 = .v (.bool o.isNone):=by rw [<- he2];simp [putD,upd]
 refine wp_mono (code_wp (X:=X) (s:=⟨w2,s.under.Y,⟨G1.nx+2,G1.ent⟩,D2⟩) hX (fn:=f) (hG _) ht2.inv ht2.env (Q:=λex e' G'=>(xs=[]/\ex = .ret/\e' 2 = .nils)\/(ex = .normal/\e' 0 = .v (.sl xs))) ?_) ?_
 ·cases o with
  | none=>
   refine Runs.yes (by simp only [Z0,q4];rfl) ?_
   refine Runs.then ?_;refine Runs.region (l:=[_]) rfl ?_;refine Ops.assign (v:=.nils) rfl rfl ?_;refine Ops.nil ?_;refine Runs.ret ?_;exact .inl ⟨ho rfl,rfl,rfl⟩
  | some o=>
   refine Runs.no (by simp only [Z0,q4];rfl) ?_
   exact Runs.skip (.inr ⟨rfl,q0⟩)
 rintro ex a3 w3 ⟨x3,e3,G3,D3,hq,rfl,ht3⟩
 have ht13:=ht12.trans ht3
 rcases hq with ⟨rfl,rfl,k2⟩|⟨rfl,k3⟩
 ·simp only [Ex.out,Exit.then];exact fin e3 G3 a3 w3 D3 G3 ht13 (by rw [k2];rfl)
 ·simp only [Ex.out,Exit.then];refine wp_mono (code_wp (X:=X) (s:=⟨w3,s.under.Y,G3,D3⟩) hX (fn:=f) (hG _) ht3.inv ht3.env (cloneD_runs hT hl hroom k3)) ?_;rintro ex a4 w4 ⟨x4,e4,G4,D4,⟨rfl,lo,hi4,L,k,H4,hk⟩,rfl,ht4⟩;obtain ⟨G5,q,_⟩:=expR_ok H4 (ExpR.one (.c (.s k hk)));exact fin e4 G4 a4 w4 D4 G5 (ht13.trans ht4) q
end Go.Dn

namespace Go.Dn
open Go
def pdOf:Ex->Option Code
 | .normal=>none
 | .exit t=>some (.exit t)
 | .ret=>some .ret
theorem Has.slCells {G:Heap} {lo hi:Nat} {L:List Res} {k:Nat} {v:PV} {et:TypeId} {sz:Nat} {xs:List (List FV)} {lv:Bool} (H:Has G lo hi L) (h:L[k]? = some (.sl v et sz xs lv)):v.cells=some [v]:=by
 rcases (H.holds k _ h).2 with ⟨rfl,_⟩|⟨id,rfl,_⟩<;>rfl
theorem Runs.env {X:Ctx} {n:Nat} {fn:FuncId} {c:Code} {e:Env} {G:Heap} {Q:Ex->Env->Heap->Prop} (l:List (Nat×PV)) (he:Zd e l) (h:∀ e0,Runs X n fn c (sets e0 l) G Q):Runs X n fn c e G Q:=by
 obtain ⟨e0,rfl⟩:=he.ex
 exact h e0
section
variable {X:Ctx}
def YldH (X:Ctx) (id:Nat) {S T:Type} (C:S->List Res->Prop) (pvT:T->List PV) (y:S->T->Option (S×Bool)):Prop :=
 ∀ s t s' b,y s t=some (s',b)->∀ G lo hi O L,C s L->Has G lo hi (O++L)->∃ G' L',ZT X (.yld id) (pvT t) G=some (.v (.bool b),G')/\C s' L'/\Hs G' (O++L')
def ItF (X:Ctx) (f:FuncId) (args:List PV) {S:Type} (C:S->List Res->Prop) (s s':S):Prop :=
 ∀ G L,C s L->Hs G L->∃ G' L',ZT X (.fn f) args G=some (.tup [],G')/\C s' L'/\Hs G' L'
structure EndsI {S:Type} (C:S->List Res->Prop) (s:S) (x:Ex) (e:Env) (G:Heap):Prop where
 out:(x = .normal\/x = .ret)/\∃ L,C s L/\Hs G L
theorem EndsI.H {S:Type} {C:S->List Res->Prop} {s:S} {x:Ex} {e:Env} {G:Heap} {lo hi:Nat} {L L0:List Res} (hx:x = .normal\/x = .ret) (H:Has G lo hi L) (k:Nat) (hk:L.drop k=L0) (hC:C s L0):EndsI C s x e G :=
 ⟨hx,L0,hC,(hk▸H.drop k:Has G lo hi L0).all⟩
theorem ItF.of {f:FuncId} {args:List PV} {S:Type} {C:S->List Res->Prop} {s s':S} {fu:Func} {c:Code} {m:Nat} (hf:X.P.funcs[f]? = some fu) (hb:fu.body=some c) (hr:fu.results = #[]) (hi:X.intr f args=none) (hk:X.keep f=false) (ho:X.opn f=false) (hs:args.all PV.still=true)
  (hp:args.all PV.pure=false) (hm:max fu.ntmps args.length=m) (h:∀ G L,C s L->Hs G L->Runs X m f c (Z28 args) G (EndsI C s')) (hq:X.prim f=none:=by rfl):ItF X f args C s s':=by
 subst hm
 intro G L hC H
 obtain ⟨lf,x,e',G1,h1,hE⟩:=(h G L hC H).run
 obtain ⟨hx,L',hC',H'⟩:=hE.out
 refine ⟨G1,L',Z0L (lf:=lf) ?_,hC',H'⟩
 have hbody:Zp X (ZT X) lf f args G=some (.tup [],G1):=by
  simp only [Zp,hq,hf,hb,h1];rcases hx with rfl|rfl<;>simp [hr,ZS,Z00]
 simp only [Z1i,hi,hk,Y07,YF,if_false,Z2K hs,ho,hp,hbody,Y4]
 rfl
section
variable {n:Nat} {dr:Bool} {fn:FuncId} {ops:Array Oper} {base i:Nat} {l:List Oper} {e:Env} {G:Heap} {K:Env->Heap->Prop} {Q:Ex->Env->Heap->Prop}
variable {d:Nat} {t:TypeId} {p:String} {af:Array Edge} {x:Operand} {lo hi:Nat} {L:List Res}
end
def RangeC (id:Nat) (fn:FuncId) (e:Env) (n:Nat) (ps:List Nat) (as_ bo:Code) {S:Type} (Co:S->List Res->Prop) (pd:Nat->Option Code):S×Nat->List Res->Prop :=
 λs L=>∃ M,Co s.1 M/\L = .loop id fn e n ps as_ bo (if s.2=0 then .ready else .done) (pd s.2)::M
variable {n:Nat} {fn:FuncId} {e:Env} {G:Heap} {Q:Ex->Env->Heap->Prop}
def BodyOK (X:Ctx) (n:Nat) (fn:FuncId) (e:Env) (ps:List Nat) (as_ bo:Code) {S T:Type} (Co:S->List Res->Prop) (pvT:T->List PV) (yb:S->T->Option (S×Nat)) (pd:Nat->Option Code):Prop :=
 ∀ (R0 R1:Res) s t s' p,yb s t=some (s',p)->∀ G M O,Co s M->Hs G (R0::(M++O)) ->
  Runs X n fn as_ (Z1a e n ps (pvT t)) G λx e1 G1=>x = .normal/\∃ M1,Hs G1 (R0::(M1++O)) /\
   ∀ G2,Hs G2 (R1::(M1++O))->Runs X n fn bo e1 G2 λx e2 G3=>(pdOf x=pd p/\(x = .normal↔p=0))/\∃ M2,Co s' M2/\Hs G3 (R1::(M2++O))
theorem callO_of {f:FuncId} {args:List PV} {fu:Func} {c:Code} {m:Nat} {G:Heap} {Post:PV->Heap->Prop} (hf:X.P.funcs[f]? = some fu) (hb:fu.body=some c) (hi:X.intr f args=none) (hk:X.keep f=false) (ho:X.opn f=true) (hp:args.all PV.pure=true) (hm:max fu.ntmps args.length=m)
  (h:Runs X m f c (Z28 args) G λx e G'=>(x = .normal\/x = .ret)/\∃ xs,ZS X.P e G' fu.results.toList=some xs/\Post (Z00 xs) G') (hq:X.prim f=none:=by rfl) (hfr:X.fresh f=false:=by rfl):∃ r G',ZT X (.fn f) args G=some (r,G')/\Post r G':=by
 subst hm
 obtain ⟨lf,x,e',G1,h1,hx,xs,h2,h3⟩:=h.run
 refine ⟨Z00 xs,G1,Z0L (lf:=lf) ?_,h3⟩
 have hbody:Zp X (ZT X) lf f args G=some (Z00 xs,G1):=by
  simp only [Zp,hq,hf,hb,h1];rcases hx with rfl|rfl<;>simp only [h2,YE]
 simp only [Z1i,hi,hk,YF,if_false,Z0H hp,ho,if_true,hfr,Y07,hbody]
end
end Go.Dn

namespace Go.Dn
open Go
theorem Has.pickT {G:Heap} {lo hi:Nat} {T:List Res} (A:List Res) (ks:List Nat) (hn:ks.Nodup) (hk:ks.all (Nat.blt · A.length)=true) (H:Has G lo hi (A++T)):Has G lo hi (Dn.pick A ks++T):=by
 have hk':∀ k∈ks,k<A.length:=λk h=>by
  have:=List.all_eq_true.1 hk k h;exact Yq this
 have h:=H.pick (ks++(List.range T.length).map (A.length+·)) (by
  refine List.nodup_append.2 ⟨hn,?_,?_⟩
  ·exact List.Pairwise.map _ (λa b hab=>by omega) List.nodup_range
  ·intro a ha b hb;obtain ⟨j,_,rfl⟩:=List.mem_map.1 hb;have:=hk' a ha;omega)
 have fc:∀ (f g:Nat->Option Res) (l:List Nat),(∀ k∈l,f k=g k)->l.filterMap f=l.filterMap g:=by
  intro f g l
  induction l with
  | nil=>intro _;rfl
  | cons k l ih=>
   intro h;rw [List.filterMap_cons,List.filterMap_cons,h k YU,ih λk hk=>h k (YR _ hk)]
 have fr:∀ (T:List Res),List.filterMap (λj=>T[j]?) (List.range T.length)=T:=by
  intro T
  induction T with
  | nil=>rfl
  | cons r T ih=>
   rw [YX,List.range_succ_eq_map,List.filterMap_cons,List.filterMap_map];simp only [List.getElem?_cons_zero]
   congr 1
 have e:Dn.pick (A++T) (ks++(List.range T.length).map (A.length+·))=Dn.pick A ks++T:=by
  unfold Dn.pick;rw [List.filterMap_append]
  congr 1
  ·exact fc _ _ _ λk hm=>YM (hk' k hm)
  ·rw [List.filterMap_map];refine Eq.trans (fc _ _ _ λj _=>?_) (fr T);simp [Function.comp,YS]
 rw [<- e];exact h
theorem Has.mem {G:Heap} {lo hi:Nat} {L:List Res} (H:Has G lo hi L):∀ r∈L,r.holds G/\∀ id,r.owner=some id->(id<lo\/hi<=id)/\id<G.nx:=λr hr=>by
 obtain ⟨k,hk⟩:=Yc hr
 exact ⟨H.holds k r hk,H.lt k r hk⟩
abbrev Apart (r s:Res):Prop:=∀ id,r.owner=some id->s.owner≠some id
theorem Has.pw {G:Heap} {lo hi:Nat} {L:List Res} (H:Has G lo hi L):L.Pairwise Apart:=by
 rw [List.pairwise_iff_getElem]
 intro i j hi' hj hij
 exact H.sep i j _ _ (by omega) (YB hi') (YB hj)
theorem Has.mk' {G:Heap} {lo hi:Nat} {L:List Res} (hm:∀ r∈L,r.holds G/\∀ id,r.owner=some id->(id<lo\/hi<=id)/\id<G.nx) (hp:L.Pairwise Apart) (hle:hi<=G.nx):Has G lo hi L:=by
 refine ⟨λk r hk=>(hm r (YH hk)).1,λk r hk=>(hm r (YH hk)).2,λi j r s hij h1 h2=>?_,hle⟩
 obtain ⟨hi',rfl⟩:=List.getElem?_eq_some_iff.1 h1
 obtain ⟨hj',rfl⟩:=List.getElem?_eq_some_iff.1 h2
 rw [List.pairwise_iff_getElem] at hp
 rcases YT i j with h|h
 ·exact hp i j hi' hj' h
 ·intro id h3 h4;exact hp j i hj' hi' (by omega) id h4 h3
def holes (lo hi:Nat):List Res:=.floor hi::(List.range (hi-lo)).map λj=>.hole (lo+j)
theorem mem_holes {lo hi:Nat} {r:Res} (h:r∈holes lo hi):r = .floor hi\/∃ id,r = .hole id/\lo<=id/\id<hi:=by
 rcases List.mem_cons.1 h with h|h
 ·exact .inl h
 ·obtain ⟨j,hj,rfl⟩:=List.mem_map.1 h;have:=List.mem_range.1 hj;exact .inr ⟨_,rfl,by omega,by omega⟩
theorem Has.holesIn {G:Heap} {lo hi:Nat} {L:List Res} (H:Has G lo hi L):Hs G (L++holes lo hi):=by
 refine Has.mk' (λr hr=>?_) ?_ (YG _)
 ·rcases List.mem_append.1 hr with h|h
  ·exact ⟨(H.mem r h).1,λid ho=>⟨.inl ((H.mem r h).2 id ho).2,((H.mem r h).2 id ho).2⟩⟩
  ·rcases mem_holes h with rfl|⟨id,rfl,h1,h2⟩
   ·exact ⟨H.le,λid ho=>by cases ho⟩
   ·refine ⟨trivial,λid' ho=>?_⟩;cases ho;have:=H.le;exact ⟨.inl (by omega),by omega⟩
 ·refine List.pairwise_append.2 ⟨H.pw,?_,?_⟩
  ·refine List.pairwise_cons.2 ⟨λr _ id ho=>(by cases ho),?_⟩
   refine List.Pairwise.map _ ?_ List.nodup_range;intro a b hab id h1 h2;have h1:lo+a=id:=Option.some.inj h1;have h2:lo+b=id:=Option.some.inj h2;omega
  ·intro r hr s hs id h1 h2;have:=((H.mem r hr).2 id h1).1;rcases mem_holes hs with rfl|⟨id',rfl,h3,h4⟩
   ·cases h2
   ·cases h2;omega
theorem Has.holesOut {G:Heap} {lo hi:Nat} {A L:List Res} (H:Hs G (A++(L++holes lo hi))):Has G lo hi (A++L):=by
 rw [<- Yu] at H
 have hp:=List.pairwise_append.1 H.pw
 refine Has.mk' (λr hr=>?_) hp.1 ?_
 ·have h1:=H.mem r (Y01 _ hr);refine ⟨h1.1,λid ho=>⟨?_,(h1.2 id ho).2⟩⟩;rcases YT id lo with h|h
  ·exact .inl h
  ·rcases YT id hi with h'|h'
   ·exact absurd rfl (hp.2.2 r hr (.hole id) (YR _ (List.mem_map.2 ⟨id-lo,List.mem_range.2 (by omega),by congr 1;omega⟩)) id ho)
   ·exact .inr h'
 ·exact (H.mem (.floor hi) (Yy _ YU)).1
section
variable {X:Ctx} {f:FuncId} {fu:Func} {c:Code} {m:Nat} {G:Heap} {cv:PV} {ys args:List PV} {L:List Res} {PostA:PV->List Res->Prop}
def CallI (X:Ctx) (cv:PV) (ys:List PV) (G:Heap) (T:List Res) (PostA:PV->List Res->Prop):Prop:=∃ r G' A,callV X cv ys G=some (r,G')/\PostA r A/\Hs G' (A++T)
theorem callI_of (hf:X.P.funcs[f]? = some fu) (hb:fu.body=some c) (hcv:∀ G,callV X cv ys G=ZT X (.fn f) args G) (hi:X.intr f args=none) (hk:X.keep f=true) (ho:X.opn f=true) (hm:max fu.ntmps args.length=m) {T:List Res}
  (h:Runs X m f c (Z28 args) G λx e G'=>(x = .normal\/x = .ret)/\∃ xs,ZS X.P e G' fu.results.toList=some xs/\∃ A,PostA (Z00 xs) A/\Hs G' (A++T)) (hq:X.prim f=none:=by rfl) (hfr:X.fresh f=false:=by rfl):CallI X cv ys G T PostA:=by
 subst hm
 obtain ⟨lf,x,e',G1,h1,hx,xs,h2,A,h3,h4⟩:=h.run
 refine ⟨Z00 xs,G1,A,?_,h3,h4⟩
 rw [hcv]
 refine Z0L (lf:=lf) ?_
 have hbody:Zp X (ZT X) lf f args G=some (Z00 xs,G1):=by
  simp only [Zp,hq,hf,hb,h1];rcases hx with rfl|rfl<;>simp only [h2,YE]
 simp only [Z1i,hi,hk,if_true,ho,hfr,Y07,YF,if_false,hbody]
theorem callIO_of (hf:X.P.funcs[f]? = some fu) (hb:fu.body=some c) (hcv:∀ G,callV X cv ys G=ZT X (.fn f) args G) (hi:X.intr f args=none) (hk:X.keep f=false) (ho:X.opn f=true) (hp:args.all PV.pure=true) (hm:max fu.ntmps args.length=m) {T:List Res}
  (h:Runs X m f c (Z28 args) G λx e G'=>(x = .normal\/x = .ret)/\∃ xs,ZS X.P e G' fu.results.toList=some xs/\∃ A,PostA (Z00 xs) A/\Hs G' (A++T)) (hq:X.prim f=none:=by rfl) (hfr:X.fresh f=false:=by rfl):CallI X cv ys G T PostA:=by
 obtain ⟨r,G',h1,A,h2,h3⟩:=callO_of (Post:=λr G'=>∃ A,PostA r A/\Hs G' (A++T)) hf hb hi hk ho hp hm h hq hfr
 exact ⟨r,G',A,by rw [hcv];exact h1,h2,h3⟩
end
section
variable {X:Ctx} {n:Nat} {dr:Bool} {fn:FuncId} {ops:Array Oper} {base i:Nat} {l:List Oper} {e:Env} {G:Heap} {K:Env->Heap->Prop}
variable {d:Nat} {t t1:TypeId} {p:String} {af:Array Edge} {x:Operand} {lo hi:Nat} {L:List Res}
theorem callV_step {cv:PV} {args:List PV} {r:PV} {G':Heap} {c:Call} {id0:Nat} (hc:c.callee = .value x) (hx:Z0 X e x=some cv) (ha:ZC X e c.args.toList=some args) (h:Dn.callV X cv args G=some (r,G')):ZO X (ZT X) e G id0 c=some (r,G'):=by
 simp only [ZO,ha,hc,hx]
 unfold Dn.callV at h
 split at h
 ·exact h
 ·exact h
 ·cases h
theorem Sub.more {C L M:List Res} (h:Sub C L):Sub C (L++M):=by
 induction h with
 | nil=>exact .nil
 | cons k h t ih=>
  refine .cons k ?_ ih;rw [YM (List.getElem?_eq_some_iff.1 h).1,h]
theorem Z4E {cv:PV} {ys:List PV} {PostA:PV->List Res->Prop} (A:List Res) (H:Has G lo hi (A++L)) (hf:∀ T,(∀ C,Sub C L->Sub C T)->Hs G (A++T)->CallI X cv ys G T PostA) :
  ∃ r G' A',Dn.callV X cv ys G=some (r,G')/\PostA r A'/\Has G' lo hi (A'++L):=by
 have hsub:∀ C,Sub C L->Sub C (L++holes lo hi):=λC h=>h.more
 have H1:=H.holesIn
 rw [Yu] at H1
 obtain ⟨r,G',A',h1,h2,h3⟩:=hf (L++holes lo hi) hsub H1
 exact ⟨r,G',A',h1,h2,h3.holesOut⟩
theorem Ops.callI {cv:PV} {args:Array Operand} {ts:Array TypeId} {ys:List PV} {PostA:PV->List Res->Prop} (A:List Res) (H:Has G lo hi (A++L)) (hx:Z0 X e x=some cv) (ha:ZC X e args.toList=some ys) (hf:∀ T,(∀ C,Sub C L->Sub C T)->Hs G (A++T)->CallI X cv ys G T PostA) (hdr:dr=true->Z1C (Region.before ops) ops i=true) (hd:Nat.blt d n=true)
  (hk:∀ r A' G',PostA r A'->Has G' lo hi (A'++L)->Ops X n dr ops base (i+1) l (set e d r) G' K) :
  Ops X n dr ops base i (⟨some d,.call { callee:=.value x,args:=args,argTypes:=ts },t,p,af,none⟩::l) e G K:=by
 obtain ⟨r,G',A',q1,q2,q3⟩:=Z4E A H hf
 exact .plain (x:=r) (G1:=G') (by simp only [Z1];exact callV_step rfl hx ha q1) (λh=>Z3m (hdr h)) hd (hk r A' G' q2 q3)
def FnO (X:Ctx) (f:FuncId) (args:List PV) (PostA:PV->List Res->Prop):Prop:=∀ G T,Hs G T->CallI X (.v (.fn f)) args G T PostA
theorem FnO.of {f:FuncId} {fu:Func} {c:Code} {m:Nat} {args:List PV} {PostA:PV->List Res->Prop} (hf:X.P.funcs[f]? = some fu) (hb:fu.body=some c) (hi:X.intr f args=none) (hk:X.keep f=false) (ho:X.opn f=true) (hp:args.all PV.pure=true) (hm:max fu.ntmps args.length=m)
  (h:∀ G T,Hs G T->Runs X m f c (Z28 args) G λx e G'=>(x = .normal\/x = .ret)/\∃ xs,ZS X.P e G' fu.results.toList=some xs/\∃ A,PostA (Z00 xs) A/\Hs G' (A++T)) (hq:X.prim f=none:=by rfl) (hfr:X.fresh f=false:=by rfl):FnO X f args PostA :=
 λG T H=>callIO_of hf hb (λ_=>rfl) hi hk ho hp hm (h G T H) hq hfr
theorem Ops.callFO {f:FuncId} {args:Array Operand} {ts:Array TypeId} {ys:List PV} {PostA:PV->List Res->Prop} (H:Has G lo hi L) (ha:ZC X e args.toList=some ys) (hf:FnO X f ys PostA) (hdr:dr=true->Z1C (Region.before ops) ops i=true) (hd:Nat.blt d n=true)
  (hk:∀ r A' G',PostA r A'->Has G' lo hi (A'++L)->Ops X n dr ops base (i+1) l (set e d r) G' K) :
  Ops X n dr ops base i (⟨some d,.call { callee:=.value (.func f),args:=args,argTypes:=ts },t,p,af,none⟩::l) e G K :=
 Ops.callI [] H rfl ha (λT _ H=>hf G T H) hdr hd hk
theorem Ops.Z1K {id ver off:Nat} {te:TypeId} {cells:List PV} (H:Has G lo hi L) (k:Nat) (hk:L[k]? = some (.blk id te cells)) (hv:cells.length=ver) (hx:Z0 X e x=some (.ptr id ver off)) (ha:dr=true->Seen ops base i id false) (hd:Nat.blt d n=true)
  (hk':Ops X n dr ops base (i+1) l (set e d (.ptr id ver off)) G K):Ops X n dr ops base i (⟨some d,.nilCheck x,t,p,af,none⟩::l) e G K:=by
 refine .plain (x:=.ptr id ver off) (G1:=G) ?_ (λh=>Z0M (ids:=[id]) rfl ?_ (λj hj=>by simp at hj;subst hj;exact ha h)) hd hk'
 ·simp only [Z1,hx,H.cur hk hv,if_true]
 ·simp only [touched,ZB,YI,YK,hx,vids,YL]
inductive ExpP:List Res->List (Nat×PV)->List (Nat×PV)->List Res->Prop
 | nil {L:List Res}:ExpP L [] [] L
 | keep {L L':List Res} {j:Nat} {x:PV} {ps qs:List (Nat×PV)} (h:Z2c x=false) (t:ExpP L ps qs L'):ExpP L ((j,x)::ps) ((j,x)::qs) L'
 | exp {L L1 L2:List Res} {j:Nat} {x y:PV} {ps qs:List (Nat×PV)} (h:ExpV L x y L1) (t:ExpP L1 ps qs L2):ExpP L ((j,x)::ps) ((j,y)::qs) L2
theorem Z63 {x:PV} {y:FV} {L':List Res} (H:Has G lo hi L) (h:ExpC L x y L') (hr:isRef x=false):x = .v y/\L'=L:=by
 cases h with
 | v y=>exact ⟨rfl,rfl⟩
 | n=>cases hr
 | full xs=>cases hr
 | ro h=>
  rcases h with ⟨rfl,rfl⟩|rfl
  ·cases hr
  ·exact ⟨rfl,rfl⟩
 | s k h=>
  rcases (H.sl h).2 with ⟨rfl,_⟩|⟨id,rfl,_⟩<;>cases hr
theorem Z5X:∀ {xs:List PV} {ys:List FV} {L L':List Res},Has G lo hi L->ExpCs L xs ys L'->xs.any isRef=false->xs=vs ys/\L'=L
 | [],ys,L,L',H,h,_=>by cases h;exact ⟨rfl,rfl⟩
 | x::xs,ys,L,L',H,h,hr=>by
  simp only [List.any_cons,Bool.or_eq_false_iff] at hr;cases h with
  | cons h t=>
   obtain ⟨rfl,rfl⟩:=Z63 H h hr.1;obtain ⟨rfl,rfl⟩:=Z5X H t hr.2;exact ⟨rfl,rfl⟩
theorem expV_noref {x y:PV} {L':List Res} (H:Has G lo hi L) (h:ExpV L x y L') (hr:Z2c x=false):y=x/\L'=L:=by
 cases h with
 | c h=>
  have:isRef x=false:=by cases x<;>first|rfl|exact hr
  obtain ⟨rfl,rfl⟩:=Z63 H h this;exact ⟨rfl,rfl⟩
 | a h=>
  obtain ⟨rfl,rfl⟩:=Z5X H h hr;exact ⟨rfl,rfl⟩
 | p h=>exact ⟨rfl,rfl⟩
theorem fvsOf_vs (l:List FV):fvsOf (vs l)=some l:=by
 induction l with
 | nil=>rfl
 | cons x l ih=>show (fvsOf (vs l)).map (x::·)=_;rw [ih];rfl
theorem frzC_ok {x:PV} {y:FV} {L':List Res} (H:Has G lo hi L) (h:ExpC L x y L'):∃ G',Z1F G x=some (.v y,G')/\Has G' lo hi L'/\G'.nx=G.nx:=by
 cases h with
 | v y=>exact ⟨G,rfl,H,rfl⟩
 | n=>exact ⟨G,rfl,H,rfl⟩
 | full xs=>exact ⟨G,rfl,H,rfl⟩
 | ro h=>rcases h with ⟨rfl,rfl⟩|rfl<;>exact ⟨G,rfl,H,rfl⟩
 | @s _ et sz xs lv k h=>
  obtain ⟨hs,hv⟩:=H.sl h;rcases hv with ⟨rfl,rfl⟩|⟨id,rfl,hb⟩
  ·exact ⟨G,rfl,H.say h ⟨by simp,.inl ⟨rfl,rfl⟩⟩ rfl,rfl⟩
  ·refine ⟨G.put id (.blk et (vs xs.flatten) false),?_,H.put h rfl (r':=.sl (.buf id xs.length sz) et sz xs false) ⟨hs,.inr ⟨id,rfl,Z0Y⟩⟩ rfl,rfl⟩;simp only [Z1F,hb];rw [if_pos (by rw [Zv,Zb hs]),fvsOf_vs,YE,Z2h hs]
theorem frzCs_ok:∀ {xs:List PV} {G:Heap} {L L':List Res} {ys:List FV},Has G lo hi L->ExpCs L xs ys L'->∃ G',Z0o G xs=some (vs ys,G')/\Has G' lo hi L'/\G'.nx=G.nx
 | [],G,L,L',ys,H,h=>by cases h;exact ⟨G,rfl,H,rfl⟩
 | x::xs,G,L,L',ys,H,h=>by
  cases h with
  | cons h t=>
   obtain ⟨G1,q1,q2,q3⟩:=frzC_ok H h;obtain ⟨G2,p1,p2,p3⟩:=frzCs_ok q2 t;exact ⟨G2,by simp only [Z0o,q1,Y4,p1];rfl,p2,p3.trans q3⟩
theorem frzV_ok {x y:PV} {L':List Res} (H:Has G lo hi L) (h:ExpV L x y L') (hn:Z2c x=true):∃ G',Z0f G x=some (y,G')/\Has G' lo hi L'/\G'.nx=G.nx:=by
 cases h with
 | c h=>
  obtain ⟨G',q1,q2,q3⟩:=frzC_ok H h
  refine ⟨G',?_,q2,q3⟩;cases h with
  | v y=>cases hn
  | n=>simp only [Z0f,q1]
  | full xs=>simp only [Z0f,q1]
  | ro h=>
   rcases h with ⟨rfl,rfl⟩|rfl
   ·simp only [Z0f,q1]
   ·cases hn
  | s k h=>
   obtain ⟨_,⟨rfl,rfl⟩|⟨id,rfl,hb⟩⟩:=H.sl h
   ·simp only [Z0f,q1]
   ·simp only [Z0f,q1]
 | a h=>
  obtain ⟨G',q1,q2,q3⟩:=frzCs_ok H h;exact ⟨G',by simp only [Z0f,q1,Y4],q2,q3⟩
 | p h=>
  exfalso
  cases x<;>simp [PV.pure] at h<;>simp [Z2c] at hn;obtain ⟨z,hz,hz2⟩:=hn;have:=h z hz;cases z<;>simp [PV.isV] at this;simp [isRef] at hz2
theorem expP_ok:∀ {ps qs:List (Nat×PV)} {G:Heap} {L L':List Res},Has G lo hi L->ExpP L ps qs L'->∃ G',Zj G ps=some (qs,G')/\Has G' lo hi L'/\G'.nx=G.nx
 | [],qs,G,L,L',H,h=>by cases h;exact ⟨G,rfl,H,rfl⟩
 | p::ps,qs,G,L,L',H,h=>by
  cases h with
  | keep h t=>
   obtain ⟨G1,q1,q2,q3⟩:=expP_ok H t;exact ⟨G1,by simp only [Zj,h,YF,if_false,q1,Y4],q2,q3⟩
  | @exp _ L1 _ j x y ps qs h t=>
   by_cases hr:Z2c x=true
   ·obtain ⟨G1,q1,q2,q3⟩:=frzV_ok H h hr;obtain ⟨G2,p1,p2,p3⟩:=expP_ok q2 t;exact ⟨G2,by simp only [Zj,hr,if_true,q1,Y4,p1],p2,p3.trans q3⟩
   ·have hr:Z2c x=false:=by simpa using hr
    obtain ⟨rfl,rfl⟩:=expV_noref H h hr;obtain ⟨G2,p1,p2,p3⟩:=expP_ok H t;exact ⟨G2,by simp only [Zj,hr,YF,if_false,Y4,p1],p2,p3⟩
def FrzOK (ops:Array Oper) (base i:Nat) (pp:List (Nat×PV)):Prop :=
 Z1C (Region.before ops) ops i=true\/∃ ms:List Nat,(pp.flatMap λp=>Z2P p.2)=ms.map (base+·) /\
  (ms.all λm=>Nat.blt m ops.size&&((Region.before ops).getD i 0).testBit m&&(List.range ops.size).all λj=>!(unord (Region.before ops) i j&&((Region.before ops).getD j 0).testBit m))=true
theorem ask_frz {parts:Array (Nat×Operand)} {len:Nat} {pp:List (Nat×PV)} (hp:Z1D X e parts.toList=some pp) (hh:X.hold t1 parts.toList=false) (h:FrzOK ops base i pp):ZJ X ops base i ⟨some d,.buildSlice t1 len parts,t,p,af,none⟩ e=true:=by
 rcases h with h|⟨ms,h1,h2⟩
 ·exact Z3m h
 ·refine ask0 ?_;have hf:frozen X e (.buildSlice t1 len parts)=ms.map (base+·):=by simp only [frozen,hp,h1,hh]
  simp only [ZL,ZZ,hf];refine List.all_eq_true.2 λk hk=>?_;obtain ⟨m,hm,rfl⟩:=List.mem_map.1 hk;have:=List.all_eq_true.1 h2 m hm;simp only [YD] at this;simp only [Yj,YD,decide_eq_true_eq];exact ⟨⟨⟨Y0U _ _,by have:=Z59 this.1.1;omega⟩,this.1.2⟩,this.2⟩
theorem Ops.buildSF {parts:Array (Nat×Operand)} {len sz:Nat} {el:TypeId} {zs:List PV} {pp qq:List (Nat×PV)} {L':List Res} (xs:List (List FV)) (H:Has G lo hi L) (hlo:lo<=base+i) (hhi:base+i<hi)
  (ht:tslice X.P t1=some el) (hp:Z1D X e parts.toList=some pp) (hE:ExpP L pp qq L') (hs:tsize X.P el=some sz) (hz:tzero X.P el=some zs) (hc:(zs.length==sz&&sz != 0&&Nat.ble (len*sz) 1000000)=true)
  (hf:Z38 (λi=>some (i*sz,sz)) (List.replicate len zs).flatten qq=some (vs xs.flatten)) (hl:xs.length=len) (hx:xs.all (λy=>y.length==sz)=true) (hd:Nat.blt d n=true) (hdr:dr=true->FrzOK ops base i pp)
  (hk:∀ G',Has G' (base+i+1) hi (.sl (.buf (base+i) len sz) el sz xs true::L')->Ops X n dr ops base (i+1) l (set e d (.buf (base+i) len sz)) G' K) (hlit:X.lit=false:=by rfl) (hh:X.hold t1 parts.toList=false:=by rfl) :
  Ops X n dr ops base i (⟨some d,.buildSlice t1 len parts,t,p,af,none⟩::l) e G K:=by
 simp only [YD,beq_iff_eq,bne_iff_ne,ne_eq,Nat.ble_eq] at hc
 obtain ⟨G1,q1,H1,q3⟩:=expP_ok H hE
 have hl0:(X.lit&&len != 0)=false:=by rw [hlit];rfl
 refine .plain (x:=.buf (base+i) len sz) (G1:=G1.put (base+i) (.blk el (vs xs.flatten) true)) ?_ (λh=>ask_frz hp hh (hdr h)) hd (hk _ (H1.push hlo hhi (r':=.sl (.buf (base+i) len sz) el sz xs true) ?_ rfl))
 ·simp only [Z1,Z08,hp,Y4,hh,Z43,q1,Z0V,ht,hs,hz];rw [if_pos ⟨hc.1.1,hc.1.2,hc.2⟩,hf];simp only [litR,hl0];rfl
 ·exact ⟨λy hy=>by have:=List.all_eq_true.1 hx y hy;simpa using this,.inr ⟨base+i,by rw [hl],Z0Y⟩⟩
end
theorem loopD_up (step step':Env->Heap->Option Out) (hst:∀ e G r,step e G=some r->step' e G=some r) (j j':Nat) (hj:j<=j') (e:Env) (G:Heap) (r:Out) (h:Z0F step j e G=some r):Z0F step' j' e G=some r:=by
 induction j generalizing j' e G r with
 | zero=>simp [Z0F] at h
 | succ j ihj=>
  obtain ⟨j',rfl⟩ : ∃ i,j'=i+1:=⟨j'-1,by omega⟩
  simp only [Z0F] at h ⊢
  split at h
  ·rename_i h1;rw [hst _ _ _ h1];exact ihj j' (by omega) _ _ _ h
  ·rename_i hn;rw [hst _ _ _ h]
   split
   ·rename_i heq;rw [h] at hn;cases heq;exact absurd rfl (hn _ _)
   ·rfl
theorem Runs.again {X:Ctx} {n:Nat} {fn:FuncId} {c:Code} {e:Env} {G:Heap} {Q:Ex->Env->Heap->Prop} (h:Runs X n fn c e G (Then' (λe G=>Runs X n fn (.loop c) e G Q) Q)):Runs X n fn (.loop c) e G Q:=by
 obtain ⟨l1,x,e1,G1,h1,h2⟩:=h.run
 cases x with
 | normal=>
  obtain ⟨l2,y,e2,G2,h3,h4⟩:=Runs.run h2;refine ⟨max l1 l2+1,y,e2,G2,?_,h4⟩;simp only [Z3] at h3 ⊢;simp only [Z0F,Z0J (show l1<=max l1 l2+1 by omega) h1]
  exact loopD_up _ _ (λe G r h=>Z0J (show l2<=max l1 l2+1 by omega) h) l2 _ (by omega) _ _ _ h3
 | exit id=>
  refine ⟨l1+1,_,e1,G1,?_,h2⟩;simp only [Z3,Z0F,Z0J (show l1<=l1+1 by omega) h1]
 | ret=>
  refine ⟨l1+1,_,e1,G1,?_,h2⟩;simp only [Z3,Z0F,Z0J (show l1<=l1+1 by omega) h1]
end Go.Dn

namespace Go.Dn
open Go
section
variable {X:Ctx} {n:Nat} {fn:FuncId} {ops:Array Oper} {base i:Nat} {l:List Oper} {e:Env} {G:Heap} {K:Env->Heap->Prop}
variable {d:Nat} {t t1:TypeId} {p:String} {af:Array Edge} {x y z:Operand} {lo hi k:Nat} {L:List Res}
end
theorem Ops.na {X:Ctx} {n:Nat} {dr:Bool} {ops:Array Oper} {base i:Nat} {e:Env} {G:Heap} {K:Env->Heap->Prop} {lo hi:Nat} {L:List Res} (H:Has G lo hi L) (h:Hs G L->K e G):Ops X n dr ops base i [] e G K:=.nil (h H.all)
section
variable {X:Ctx} {n:Nat} {dr:Bool} {ops:Array Oper} {base i:Nat} {l:List Oper} {e:Env} {G:Heap} {K:Env->Heap->Prop}
variable {d:Nat} {t t1:TypeId} {p:String} {af:Array Edge} {x y z:Operand} {lo hi k:Nat} {L:List Res}
end
end Go.Dn

namespace Go.Dn
open Go
def Res.solid:Res->Bool
 | .hole _=>false
 | _=>true
def star (G:Heap):Res->Res
 | .hole id=>.fix id (G.ent id)
 | r=>r
theorem Z6W {G:Heap} {r:Res}:(star G r).owner=r.owner:=by cases r<;>rfl
theorem star_holds {G:Heap} {r:Res} (h:r.holds G):(star G r).holds G:=by cases r<;>first|exact h|exact rfl
theorem solid_star {G:Heap} {r:Res} (h:r.solid=true):star G r=r:=by cases r<;>first|rfl|cases h
section
variable {G:Heap} {lo hi:Nat} {L C:List Res}
theorem Has.star (H:Has G lo hi L):Has G G.nx G.nx (L.map (star G)):=by
 refine ⟨λk r h=>?_,λk r h id ho=>?_,λj k r s hjk h1 h2 id ho=>?_,YG _⟩
 ·rw [YP,Y3] at h;obtain ⟨q,hq,rfl⟩:=h;exact star_holds (H.holds k q hq)
 ·rw [YP,Y3] at h;obtain ⟨q,hq,rfl⟩:=h;rw [Z6W] at ho;have:=(H.lt k q hq id ho).2;exact ⟨.inl this,this⟩
 ·rw [YP,Y3] at h1 h2;obtain ⟨q,hq,rfl⟩:=h1;obtain ⟨q',hq',rfl⟩:=h2;rw [Z6W] at ho ⊢;exact H.sep j k q q' hjk hq hq' id ho
theorem Has.add (H:Has G G.nx G.nx L) {id:Nat} (hl:id<G.nx) (hn:∀ r∈L,r.owner≠some id):Has G G.nx G.nx (.fix id (G.ent id)::L):=by
 refine ⟨λj s h=>?_,λj s h id' ho2=>?_,λi j s t hij h1 h2 id' hs=>?_,H.le⟩
 ·cases j with
  | zero=>cases h;exact rfl
  | succ j=>exact H.holds j s h
 ·cases j with
  | zero=>cases h;cases ho2;exact ⟨.inl hl,hl⟩
  | succ j=>exact H.lt j s h id' ho2
 ·cases i with
  | zero=>
   cases h1;cases hs;cases j with
   | zero=>exact absurd rfl hij
   | succ j=>exact hn t (YH h2)
  | succ i=>
   cases j with
   | zero=>
    cases h2;intro e;cases e;exact hn s (YH h1) hs
   | succ j=>exact H.sep i j s t (λe=>hij (by rw [e])) h1 h2 id' hs
def fixL (G:Heap) (L:List Res):Nat->List Res
 | 0=>L.map (star G)
 | k+1=>if (fixL G L k).any (λr=>r.owner==some k) then fixL G L k else .fix k (G.ent k)::fixL G L k
theorem Sub.star {C L:List Res} (h:Sub C L):C.all Res.solid=true->Sub C (L.map (star G)):=by
 induction h with
 | nil=>intro _;exact .nil
 | cons k h t ih=>
  intro hs;simp only [Yg,YD] at hs;exact .cons k (by rw [YP,h,YE,solid_star hs.1]) (ih hs.2)
end
section
variable {X:Ctx} {n:Nat} {dr:Bool} {fn:FuncId} {ops:Array Oper} {base i:Nat} {l:List Oper} {e:Env} {G:Heap} {K:Env->Heap->Prop}
variable {d:Nat} {t:TypeId} {p:String} {af:Array Edge} {x:Operand} {lo hi:Nat} {L C:List Res}
theorem Ops.stepS {o:Oper} {e1:Env} {G1:Heap} (h:Zm X (ZT X) n ops base i o e G=some (e1,G1)) (ha:dr=true->Z1O X (ZT X) ops base i o e G) (hk:Ops X n dr ops base (i+1) l e1 G1 K):Ops X n dr ops base i (o::l) e G K:=by
 obtain ⟨e',G',h1,h2⟩:=hk.run
 refine ⟨⟨e',G',?_,h2⟩⟩
 cases dr with
 | false=>
  simp only [YF,if_false] at h1 ⊢;simp only [Z0T,h,Y4,h1]
 | true=>
  simp only [if_true] at h1 ⊢;have:Zh X (ZT X) n ops base i o e G=some (e1,G1):=by
   unfold Zh
   split
   ·rw [if_pos (ha rfl)];exact h
   ·exact h
  simp only [Z07,this,Y4,h1]
end
inductive FzC (L:List Res):PV->FV->Prop
 | v (y:FV):FzC L (.v y) y
 | n:FzC L .nils (.sl [])
 | ro {v:PV} {xs:List (List FV)} (h:RO v xs):FzC L v (.sl xs)
 | s {v:PV} {et:TypeId} {sz:Nat} {xs:List (List FV)} (k:Nat) (h:L[k]? = some (.sl v et sz xs false)):FzC L v (.sl xs)
inductive FzCs (L:List Res):List PV->List FV->Prop
 | nil:FzCs L [] []
 | cons {x:PV} {y:FV} {xs:List PV} {ys:List FV} (h:FzC L x y) (t:FzCs L xs ys):FzCs L (x::xs) (y::ys)
inductive FzV (L:List Res):PV->PV->Prop
 | c {x:PV} {y:FV} (h:FzC L x y):FzV L x (.v y)
 | a {xs:List PV} {ys:List FV} (h:FzCs L xs ys):FzV L (.agg xs) (.agg (vs ys))
 | p {x:PV} (h:x.pure=true):FzV L x x
inductive FzVs (L:List Res):List PV->List PV->Prop
 | nil:FzVs L [] []
 | cons {x y:PV} {xs ys:List PV} (h:FzV L x y) (t:FzVs L xs ys):FzVs L (x::xs) (y::ys)
section
variable {G:Heap} {lo hi:Nat} {L:List Res}
end
def PV.one:PV->Bool
 | .v _=>true
 | .fptr _=>true
 | .ptr _ _ _=>true
 | .clo _ _ _=>true
 | .yld _=>true
 | _=>false
theorem one_still {x:PV} (h:x.one=true):x.still=true:=by cases x<;>first|rfl|cases h
end Go.Dn

namespace Go.Dn
open Go
def cF (n:Nat):List FV:=[.fn n]
def tailsOK (ops:Array Oper):Nat->List Oper->Bool
 | _,[]=>true
 | k,o::l=>(o.after.all λe=>!Region.binds .any e||decide (e.on<k))&&(l.all λoj=>oj.after.any (λe=>Region.binds .any e&&e.on==k)||o.apart ops oj)&&tailsOK ops (k+1) l
section
variable {X:Ctx} {n:Nat} {dr:Bool} {ops:Array Oper} {base i:Nat} {l:List Oper} {e:Env} {G:Heap} {K:Env->Heap->Prop}
variable {d:Nat} {t t1:TypeId} {p:String} {af:Array Edge} {x y:Operand} {lo hi:Nat} {L:List Res}
end
end Go.Dn

namespace Go.Dn
open Go
theorem p2 {A B:Type} {a a':A} {b b':B} (h:(a,b)=(a',b')):a=a'/\b=b':=by cases h;exact ⟨rfl,rfl⟩
theorem p3 {A B C:Type} {a a':A} {b b':B} {c c':C} (h:(a,b,c)=(a',b',c')):a=a'/\b=b'/\c=c':=by cases h;exact ⟨rfl,rfl,rfl⟩
theorem p4 {A B C Dd:Type} {a a':A} {b b':B} {c c':C} {d d':Dd} (h:(a,b,c,d)=(a',b',c',d')):a=a'/\b=b'/\c=c'/\d=d':=by cases h;exact ⟨rfl,rfl,rfl,rfl⟩
theorem p5 {A B C Dd E:Type} {a a':A} {b b':B} {c c':C} {d d':Dd} {e e':E} (h:(a,b,c,d,e)=(a',b',c',d',e')):a=a'/\b=b'/\c=c'/\d=d'/\e=e':=by cases h;exact ⟨rfl,rfl,rfl,rfl,rfl⟩
def gOK (ops:Array Oper) (e:Env):Option (Nat×Bool)->Bool
 | none=>true
 | some (j,w)=>match (ops[j]?).bind (·.dst) with
  | some d=>match e d with
   | .v (.bool b)=>b==w
   | _=>false
  | none=>false
def skipN (ops:Array Oper) (n:Nat):Nat->List Oper->Env->Option (List Oper×Env)
 | 0,l,e=>some (l,e)
 | k+1,[],e=>none
 | k+1,o::l,e=>match o.guard with
  | some (j,w)=>match (ops[j]?).bind (·.dst) with
   | some g=>match e g with
    | .v (.bool b)=>bif b==w then none else match o.dst with
     | some d=>bif Nat.blt d n then skipN ops n k l (set e d .undef) else none
     | none=>skipN ops n k l e
    | .undef=>match o.dst with
     | some d=>bif Nat.blt d n then skipN ops n k l (set e d .undef) else none
     | none=>skipN ops n k l e
    | _=>none
   | none=>none
  | none=>none
theorem EI {e:Env}:∀ {L:List (Nat×PV)},(L.map λp=>e p.1)=L.map (·.2)->Zd e L
 | [],_=>trivial
 | (k,v)::L,h=>by
  have h1:=List.cons.inj h;exact ⟨h1.1,EI h1.2⟩
section
variable {X:Ctx} {n:Nat} {dr:Bool} {fn:FuncId} {ops:Array Oper} {base i:Nat} {l:List Oper} {e:Env} {G:Heap} {K:Env->Heap->Prop} {Q:Ex->Env->Heap->Prop} {c a b:Code}
variable {d:Nat} {t t1 t2:TypeId} {p:String} {af:Array Edge} {x y:Operand} {v:PV} {lo hi:Nat} {L:List Res} {g:Option (Nat×Bool)} {dst:Option Tmp} {op:Op}
theorem Ops.gd (hg:gOK ops e g=true) (hk:Ops X n dr ops base i (⟨dst,op,t,p,af,none⟩::l) e G K):Ops X n dr ops base i (⟨dst,op,t,p,af,g⟩::l) e G K:=by
 cases g with
 | none=>exact hk
 | some q=>
  obtain ⟨j,w⟩:=q;simp only [gOK] at hg
  split at hg
  ·rename_i d hd
   split at hg
   ·rename_i b hb;have:b=w:=by simpa using hg
    subst this;exact .wanted hd hb hk
   ·cases hg
  ·cases hg
theorem Ops.ps {l':List Oper} {e':Env}:∀ (k:Nat) {i:Nat} {l:List Oper} {e:Env},skipN ops n k l e=some (l',e')->Ops X n dr ops base (i+k) l' e' G K->Ops X n dr ops base i l e G K
 | 0,i,l,e,h,hk=>by cases h;exact hk
 | k+1,i,[],e,h,hk=>by cases h
 | k+1,i,⟨dst,op,t,p,af,none⟩::l,e,h,hk=>by cases h
 | k+1,i,⟨dst,op,t,p,af,some (j,w)⟩::l,e,h,hk=>by
  rw [show i+(k+1)=i+1+k by omega] at hk
  simp only [skipN] at h
  split at h
  ·rename_i g hg
   split at h
   ·rename_i b hb;cases hw:b==w with
    | true=>rw [hw] at h;cases h
    | false=>
     rw [hw] at h;have hb':e g = .v (.bool (!w)):=by rw [hb];cases b<;>cases w<;>first|rfl|cases hw
     simp only [cond_false] at h;cases dst with
     | some d=>
      cases hd:Nat.blt d n with
      | false=>simp [hd] at h
      | true=>simp only [hd,cond_true] at h;exact .pass hg hb' hd (Ops.ps k h hk)
     | none=>exact .pass0 hg hb' (Ops.ps k h hk)
   ·rename_i hb;cases dst with
    | some d=>
     cases hd:Nat.blt d n with
     | false=>simp [hd] at h
     | true=>simp only [hd,cond_true] at h;exact .passU hg hb hd (Ops.ps k h hk)
    | none=>exact .pass0U hg hb (Ops.ps k h hk)
   ·cases h
  ·cases h
theorem Ops.m1 (v:PV) (h1:Z0 X e x=some v) (h:(Nat.blt d n,gOK ops e g)=(true,true)) (hk:Ops X n dr ops base (i+1) l (set e d v) G K):Ops X n dr ops base i (⟨some d,.move x,t,p,af,g⟩::l) e G K :=
 .gd (p2 h).2 (.move h1 (p2 h).1 hk)
theorem Ops.a1 (v:PV) (h1:Z0 X e x=some v) (h:(Nat.blt d n,gOK ops e g)=(true,true)) (hk:Ops X n dr ops base (i+1) l (set e d v) G K):Ops X n dr ops base i (⟨some d,.assign x,t,p,af,g⟩::l) e G K :=
 .gd (p2 h).2 (.assign h1 (p2 h).1 hk)
theorem Ops.mV {u:FV} (h:(Z0 X e x,Nat.blt d n,gOK ops e g)=(some (.v u),true,true)) (hk:Ops X n dr ops base (i+1) l (set e d (.v u)) G K):Ops X n dr ops base i (⟨some d,.move x,t,p,af,g⟩::l) e G K:=.gd (p3 h).2.2 (.move (p3 h).1 (p3 h).2.1 hk)
theorem Ops.mP {u q r:Nat} (h:(Z0 X e x,Nat.blt d n,gOK ops e g)=(some (.ptr u q r),true,true)) (hk:Ops X n dr ops base (i+1) l (set e d (.ptr u q r)) G K):Ops X n dr ops base i (⟨some d,.move x,t,p,af,g⟩::l) e G K:=.gd (p3 h).2.2 (.move (p3 h).1 (p3 h).2.1 hk)
theorem Ops.aV {u:FV} (h:(Z0 X e x,Nat.blt d n,gOK ops e g)=(some (.v u),true,true)) (hk:Ops X n dr ops base (i+1) l (set e d (.v u)) G K):Ops X n dr ops base i (⟨some d,.assign x,t,p,af,g⟩::l) e G K:=.gd (p3 h).2.2 (.assign (p3 h).1 (p3 h).2.1 hk)
theorem Ops.aB {u q r:Nat} (h:(Z0 X e x,Nat.blt d n,gOK ops e g)=(some (.buf u q r),true,true)) (hk:Ops X n dr ops base (i+1) l (set e d (.buf u q r)) G K):Ops X n dr ops base i (⟨some d,.assign x,t,p,af,g⟩::l) e G K:=.gd (p3 h).2.2 (.assign (p3 h).1 (p3 h).2.1 hk)
theorem Ops.aP {u q r:Nat} (h:(Z0 X e x,Nat.blt d n,gOK ops e g)=(some (.ptr u q r),true,true)) (hk:Ops X n dr ops base (i+1) l (set e d (.ptr u q r)) G K):Ops X n dr ops base i (⟨some d,.assign x,t,p,af,g⟩::l) e G K:=.gd (p3 h).2.2 (.assign (p3 h).1 (p3 h).2.1 hk)
theorem Ops.tV {b:Bool} (h:(Z0 X e x,Nat.blt d n,gOK ops e g)=(some (.v (.bool b)),true,true)) (hk:Ops X n dr ops base (i+1) l (set e d (.v (.bool (!b)))) G K):Ops X n dr ops base i (⟨some d,.unOp .not t1 x,t,p,af,g⟩::l) e G K:=.gd (p3 h).2.2 (.not (p3 h).1 (p3 h).2.1 hk)
theorem Ops.iV {op:BinOp} {k:IntKind} {m m':Int} {r:FV} (h:(Z0 X e x,Z0 X e y,Z3O op k m m',Nat.blt d n,(op != .shl&&op != .shr)&&gOK ops e g)=(some (.v (.int k m)),some (.v (.int k m')),some r,true,true)) (hk:Ops X n dr ops base (i+1) l (set e d (.v r)) G K) :
  Ops X n dr ops base i (⟨some d,.binOp op t1 x y t2,t,p,af,g⟩::l) e G K:=by
 obtain ⟨h1,h2,h3,h4,h5⟩:=p5 h
 rw [YD] at h5
 exact .gd h5.2 (.int h1 h2 h5.1 h3 h4 hk)
theorem Ops.xV {vs:List PV} {j:Nat} (h:(Z0 X e x,vs[j]?,Nat.blt d n,gOK ops e g)=(some (.tup vs),some v,true,true)) (hk:Ops X n dr ops base (i+1) l (set e d v) G K):Ops X n dr ops base i (⟨some d,.extract x j,t,p,af,g⟩::l) e G K:=by
 obtain ⟨h1,h2,h3,h4⟩:=p4 h
 exact .gd h4 (.extract h1 h2 h3 hk)
theorem Ops.kT {c:Operand} {u:FV} (h:(Z0 X e c,Z0 X e x,Nat.blt d n,gOK ops e g)=(some (.v (.bool true)),some (.v u),true,true)) (hk:Ops X n dr ops base (i+1) l (set e d (.v u)) G K):Ops X n dr ops base i (⟨some d,.pick c x y,t,p,af,g⟩::l) e G K:=by
 obtain ⟨h1,h2,h3,h4⟩:=p4 h
 exact .gd h4 (.pickT h1 h2 h3 hk)
theorem Ops.kF {c:Operand} {u:FV} (h:(Z0 X e c,Z0 X e y,Nat.blt d n,gOK ops e g)=(some (.v (.bool false)),some (.v u),true,true)) (hk:Ops X n dr ops base (i+1) l (set e d (.v u)) G K):Ops X n dr ops base i (⟨some d,.pick c x y,t,p,af,g⟩::l) e G K:=by
 obtain ⟨h1,h2,h3,h4⟩:=p4 h
 exact .gd h4 (.pickF h1 h2 h3 hk)
theorem Ops.bV {parts:Array (Nat×Operand)} (cs:List PV) (h:(Z5J X e t1 parts.toList,Nat.blt d n,gOK ops e g)=(some (.agg cs),true,true)) (hk:Ops X n dr ops base (i+1) l (set e d (.agg cs)) G K):Ops X n dr ops base i (⟨some d,.build t1 parts,t,p,af,g⟩::l) e G K :=
 .gd (p3 h).2.2 (.Z5O (p3 h).1 (p3 h).2.1 hk)
theorem Ops.cV {f:FuncId} {args:Array Operand} {ts:Array TypeId} {ys:List PV} {r:PV} (hf:Fn X f ys r) (h:(ZC X e args.toList,Nat.blt d n,gOK ops e g)=(some ys,true,true)) (hk:Ops X n dr ops base (i+1) l (set e d r) G K) :
  Ops X n dr ops base i (⟨some d,.call { callee:=.value (.func f),args:=args,argTypes:=ts },t,p,af,g⟩::l) e G K:=.gd (p3 h).2.2 (.call (p3 h).1 hf (p3 h).2.1 hk)
theorem Ops.nV {α:Type} {c:α->List FV} {xs:List α} {el:TypeId} (h:(Z0 X e x,tslice X.P t1,Nat.blt d n,gOK ops e g)=(some (.v (.sl (xs.map c))),some el,true,true))
  (hk':Ops X n dr ops base (i+1) l (set e d (.v (.int .i64 xs.length))) G K):Ops X n dr ops base i (⟨some d,.call { callee:=.builtin .len,args:=#[x],argTypes:=#[t1] },t,p,af,g⟩::l) e G K:=by
 obtain ⟨h1,h2,h3,h4⟩:=p4 h
 exact .gd h4 (.lenPt h1 h2 h3 hk')
theorem Ops.jV {α:Type} {c:α->List FV} {xs:List α} {iv:Int} {ik:IntKind} {u:α} {m:Nat} (hu:at? xs iv=some u) (h:(Z0 X e x,Z0 X e y,(tslice X.P t1).bind (tsize X.P),(c u).length,(tslice X.P t1).isSome&&Nat.blt d n&&gOK ops e g)=(some (.v (.sl (xs.map c))),some (.v (.int ik iv)),some m,m,true))
  (hk':Ops X n dr ops base (i+1) l (set e d (.fptr (c u))) G K):Ops X n dr ops base i (⟨some d,.indexAddr t1 x y,t,p,af,g⟩::l) e G K:=by
 obtain ⟨h1,h2,h3,h4,h5⟩:=p5 h
 simp only [YD,Option.isSome_iff_exists] at h5
 obtain ⟨⟨⟨el,he⟩,h6⟩,h7⟩:=h5
 rw [he,Y4] at h3
 exact .gd h7 (.indexP h1 h2 hu he h3 h4 h6 hk')
theorem Ops.pV {u:FV} {cells:List FV} (h:(Z0 X e x,tagg X.P t1,cells[0]?,Nat.blt d n,gOK ops e g)=(some (.fptr cells),some false,some u,true,true))
  (hk':Ops X n dr ops base (i+1) l (set e d (.v u)) G K):Ops X n dr ops base i (⟨some d,.load t1 x,t,p,af,g⟩::l) e G K:=by
 obtain ⟨h1,h2,h3,h4,h5⟩:=p5 h
 exact .gd h5 (.loadP h1 h2 h3 h4 hk')
theorem Ops.qV {m:Nat} {cells:List FV} (cs:List FV) (h:(Z0 X e x,tsize X.P t1,cells.take m,(tagg X.P t1==some true)&&Nat.ble m cells.length&&Nat.blt d n,gOK ops e g)=(some (.fptr cells),some m,cs,true,true))
  (hk':Ops X n dr ops base (i+1) l (set e d (.agg (vs cs))) G K):Ops X n dr ops base i (⟨some d,.load t1 x,t,p,af,g⟩::l) e G K:=by
 obtain ⟨h1,h2,h3,h4,h5⟩:=p5 h
 simp only [YD,beq_iff_eq] at h4
 exact .gd h5 (.loadPA h1 h4.1.1 h2 h4.1.2 h3 h4.2 hk')
theorem Ops.fV {id ver off f fo:Nat} {ft:TypeId} {m:Nat} {te:TypeId} {cells:List PV} (H:Has G lo hi L) (k:Nat) (h:(Z0 X e x,L[k]?,tfield X.P t1 f,tsize X.P ft,Nat.beq cells.length ver&&Nat.blt d n&&gOK ops e g)=(some (.ptr id ver off),some (.blk id te cells),some (fo,ft),some (m+1),true))
  (hk':Ops X n false ops base (i+1) l (set e d (.ptr id ver (off+fo))) G K):Ops X n false ops base i (⟨some d,.fieldAddr t1 x f,t,p,af,g⟩::l) e G K:=by
 obtain ⟨h1,h2,h3,h4,h5⟩:=p5 h
 simp only [YD] at h5
 exact .gd h5.2 (.ZA H k h2 (Yz h5.1.1) h1 h3 h4 nofun h5.1.2 hk')
theorem Ops.lV {id ver off:Nat} {te:TypeId} {cells:List PV} (H:Has G lo hi L) (k:Nat) (h:(Z0 X e x,L[k]?,tagg X.P t1,cells[off]?,Nat.beq cells.length ver&&Nat.blt d n&&gOK ops e g)=(some (.ptr id ver off),some (.blk id te cells),some false,some v,true))
  (hk':Ops X n false ops base (i+1) l (set e d v) G K):Ops X n false ops base i (⟨some d,.load t1 x,t,p,af,g⟩::l) e G K:=by
 obtain ⟨h1,h2,h3,h4,h5⟩:=p5 h
 simp only [YD] at h5
 exact .gd h5.2 (.Z27 H k h2 (Yz h5.1.1) h1 h3 h4 nofun h5.1.2 hk')
theorem Ops.LV {id ver off m:Nat} {te:TypeId} {cells:List PV} (cs:List PV) (H:Has G lo hi L) (k:Nat) (h:(Z0 X e x,L[k]?,tsize X.P t1,(cells.drop off).take m,(tagg X.P t1==some true)&&Nat.ble (off+m) cells.length&&Nat.beq cells.length ver&&Nat.blt d n&&gOK ops e g)=(some (.ptr id ver off),some (.blk id te cells),some m,cs,true))
  (hk':Ops X n false ops base (i+1) l (set e d (.agg cs)) G K):Ops X n false ops base i (⟨some d,.load t1 x,t,p,af,g⟩::l) e G K:=by
 obtain ⟨h1,h2,h3,h4,h5⟩:=p5 h
 simp only [YD,beq_iff_eq] at h5
 exact .gd h5.2 (.loadHA H k h2 (Yz h5.1.1.2) h1 h5.1.1.1.1 h3 h5.1.1.1.2 h4 nofun h5.1.2 hk')
theorem Ops.sV {id ver off:Nat} {te:TypeId} {cells ys:List PV} (cells':List PV) (H:Has G lo hi L) (k:Nat) (h:(Z0 X e x,L[k]?,(Z0 X e y).bind PV.cells,splice cells off ys,(tsize X.P t1==some ys.length)&&Nat.ble (off+ys.length) cells.length&&Nat.beq cells.length ver&&gOK ops e g)=(some (.ptr id ver off),some (.blk id te cells),some ys,cells',true))
  (hk':∀ G',Has G' lo hi (L.set k (.blk id te cells'))->Ops X n false ops base (i+1) l e G' K):Ops X n false ops base i (⟨none,.store t1 x y,t,p,af,g⟩::l) e G K:=by
 obtain ⟨h1,h2,h3,h4,h5⟩:=p5 h
 simp only [YD,beq_iff_eq] at h5
 rw [Y9] at h3
 obtain ⟨v,h6,h7⟩:=h3
 exact .gd h5.2 (.Z1y H k h2 (Yz h5.1.2) h1 h6 h7 h5.1.1.1 rfl h5.1.1.2 h4 nofun hk')
theorem Ops.md {L0:List Res} (H:Has G lo hi L0) (k:Nat) (E:List (Nat×PV)) (L:List Res) (hk:Nat.ble k l.length=true) (h1:Ops X n dr ops base i (l.take k) e G λe G=>Zd e E/\Has G (base+(i+k)) hi L) (h2:∀ e G,Has G (base+(i+k)) hi L->Ops X n dr ops base (i+k) (l.drop k) (sets e E) G K):Ops X n dr ops base i l e G K :=
 .mid k hk h1 λe G ⟨he,H⟩=>by rw [he.eq];exact h2 e G H
theorem Runs.wh {α:Type} {c:Bool} {A B z:α} {t:Operand} (h:(bif c then A else B)=z) (ht:Z0 X e t=some (.v (.bool c))) (h1:A=z->Runs X n fn a e G Q) (h2:B=z->Runs X n fn b e G Q):Runs X n fn (.cond t a b) e G Q :=
 .whether ht (λhc=>h1 (Z4L hc h)) λhc=>h2 (Z5M hc h)
theorem Ops.sp {α:Type} {j gt:Nat} {w v:Bool} {A B z:α} (hb:(bif v then A else B)=z) (h:((ops[j]?).bind (·.dst),e gt)=(some gt,.v (.bool v))) (ht:A=z->Ops X n dr ops base i (⟨dst,op,t,p,af,some (j,w)⟩::l) (set e gt (.v (.bool true))) G K)
  (hf:B=z->Ops X n dr ops base i (⟨dst,op,t,p,af,some (j,w)⟩::l) (set e gt (.v (.bool false))) G K):Ops X n dr ops base i (⟨dst,op,t,p,af,some (j,w)⟩::l) e G K :=
 .split (p2 h).1 (p2 h).2 (λhc=>ht (Z4L hc hb)) λhc=>hf (Z5M hc hb)
theorem Runs.lp {S R β:Type} {step:S->Option (S⊕R)} {s:S} {Gg:R->Option β} {z:β} (h:(Dn.loopO step s).bind Gg=some z) (E:S->List (Nat×PV)) (L:S->List Res) (ex:Ex) (E':R->List (Nat×PV)) (L':R->List Res) (h0:Zd e (E s)) (H:Hs G (L s))
  (hs:∀ s e G,Hs G (L s)->∀ z,step s=some z->Runs X n fn c (sets e (E s)) G (LoopEnd (λs e G=>Zd e (E s)/\Hs G (L s)) (λy x e G=>x=ex/\Zd e (E' y)/\Hs G (L' y)) z))
  (hq:∀ y e G,Hs G (L' y)->Gg y=some z->Q ex (sets e (E' y)) G):Runs X n fn (.loop c) e G Q:=by
 obtain ⟨y,h1,h2⟩:=bind_some h
 obtain ⟨k,h1⟩:=Zu.1 h1
 refine (Runs.loopO h1 (λs e G=>Zd e (E s)/\Hs G (L s)) (λy x e G=>x=ex/\Zd e (E' y)/\Hs G (L' y)) ⟨h0,H⟩ ?_).mono ?_
 ·rintro s e G ⟨he,H⟩ z hz;rw [he.eq];exact hs s e G H z hz
 ·rintro x e G ⟨rfl,he,H⟩;rw [he.eq];exact hq y e G H h2
theorem Runs.jn {A B:Type} {o:Option A} {Gg:A->Option B} {z:B} (h:o.bind Gg=some z) (ex:Ex) (E:A->List (Nat×PV)) (L:A->List Res)
  (h1:∀ y,o=some y->Runs X n fn c e G λx e G=>x=ex/\Zd e (E y)/\Hs G (L y)) (h2:∀ y e G,Hs G (L y)->Gg y=some z->Q ex (sets e (E y)) G):Runs X n fn c e G Q:=by
 obtain ⟨y,h3,h4⟩:=bind_some h
 refine (h1 y h3).mono ?_
 rintro x e G ⟨rfl,he,H⟩
 rw [he.eq]
 exact h2 y e G H h4
theorem Runs.tR {id:Nat} {os:List Oper} (m:Nat) (hm:os.length=m) (H:Hs G L) (h:∀ base G',Has G' base (base+m) L->Ops X n false os.toArray base 0 os e G' λe G=>Runs X n fn b e G Q):Runs X n fn (.seq (.region id os.toArray false) b) e G Q :=
 .then (.Za m hm H h)
theorem bs {α β:Type} {x:Option α} {f:α->Option β} {b:β} (h:x.bind f=some b):∃ a,x=some a/\f a=some b:=Option.bind_eq_some_iff.1 h
theorem Ops.alc {cs:List PV} (H:Has G lo hi L) (hz:tzero X.P t1=some cs) (hd:Nat.blt d n=true)
  (hk:∀ G',Has G' (base+i+1) hi (.blk (base+i) t1 cs::L)->Ops X n dr ops base (i+1) l (set e d (.ptr (base+i) cs.length 0)) G' K) (hlo:lo<=base+i:=by omega) (hhi:base+i<hi:=by omega) :
  Ops X n dr ops base i (⟨some d,.alloc t1,t,p,af,none⟩::l) e G K:=.allocH H hlo hhi hz hd hk
theorem Ops.bxc {cs:List PV} (H:Has G lo hi L) (hx:Z0 X e x=some v) (hc:v.cells=some cs) (hd:Nat.blt d n=true)
  (hk:∀ G',Has G' (base+i+1) hi (.blk (base+i) t1 cs::L)->Ops X n dr ops base (i+1) l (set e d (.ptr (base+i) cs.length 0)) G' K) (hlo:lo<=base+i:=by omega) (hhi:base+i<hi:=by omega) :
  Ops X n dr ops base i (⟨some d,.box t1 x,t,p,af,none⟩::l) e G K:=.boxH H hlo hhi hx hc hd hk
theorem so {ops:Array Oper} {base i id:Nat} {dr:Bool} (h:id<base) (h2:Z2W (Region.before ops) ops i=true:=by kernel_rfl):dr=true->Seen ops base i id false:=λ_=>.inl ⟨h,nofun,λ_=>h2⟩
theorem Ends.eR {rs:List ResultVar} {xs:List PV} {r:PV} (h:(ZS X.P e G rs,Z2a (Z00 xs),Z00 xs)=(some xs,true,r)):Ends X rs r .ret e G:=.ret (p3 h).1 (p3 h).2.1 (p3 h).2.2
theorem Fn.go {f:FuncId} {args:List PV} {r:PV} {fu:Func} {c:Code} (hf:X.P.funcs[f]? = some fu) (h:(fu.body,X.intr f args,X.keep f,X.opn f,args.all PV.pure)=(some c,none,false,false,true))
  (hr:∀ G,Hs G []->Runs X (max fu.ntmps args.length) f c (Z28 args) G (Ends X fu.results.toList r)) (hq:X.prim f=none:=by rfl):Fn X f args r:=by
 obtain ⟨h1,h2,h3,h4,h5⟩:=p5 h
 exact .ends hf h1 h2 h3 h4 h5 rfl (hr _ (Has.nil (YG _))) hq
end
end Go.Dn

namespace Go.Dn
open Go
def famL {α:Type} (rt:TypeId) (sz:Nat) (c:α->List FV):List PV->List (List α)->List Res
 | v::ids,r::x=>.sl v rt sz (r.map c) true::famL rt sz c ids x
 | _,_=>[]
section
variable {α:Type} {rt:TypeId} {sz:Nat} {c:α->List FV}
theorem get_lt {β:Type} {l:List β} {m:Nat} {a:β} (h:l[m]? = some a):m<l.length:=(List.getElem?_eq_some_iff.1 h).1
end
section
variable {G:Heap} {lo hi:Nat} {L T:List Res}
end
section
variable {X:Ctx} {n:Nat} {dr:Bool} {fn:FuncId} {ops:Array Oper} {base i:Nat} {l:List Oper} {e:Env} {G:Heap} {K:Env->Heap->Prop} {Q:Ex->Env->Heap->Prop}
variable {d:Nat} {t t1 t2:TypeId} {p:String} {af:Array Edge} {x y z:Operand} {v:PV} {lo hi:Nat} {L:List Res}
theorem Ops.isNilV {α:Type} {c:α->List FV} {xs:List α} {u:Unit} {el:TypeId} (h:some? xs=some u) (hx:Z0 X e x=some (.v (.sl (xs.map c)))) (hy:Z0 X e y=some .nils) (ht:tslice X.P t1=some el) (hd:Nat.blt d n=true)
  (hk':Ops X n dr ops base (i+1) l (set e d (.v (.bool false))) G K):Ops X n dr ops base i (⟨some d,.binOp .eql t1 x y t2,t,p,af,none⟩::l) e G K:=by
 cases xs with
 | nil=>cases h
 | cons a xs=>
  refine .plain (x:=.v (.bool false)) (G1:=G) ?_ (λ_=>Z0r rfl ?_) hd hk'
  ·simp only [Z1,hx,hy,Y0C,binD,ht,Z36,YE]
  ·simp only [touched,ZB,YI,YK,hx,hy,vids,YL]
end
theorem fam_exp {α:Type} {rt:TypeId} {sz d:Nat} {c:α->List FV}:∀ {ids:List PV} {x:List (List α)} {G:Heap} {lo hi:Nat} {A T:List Res},ids.length=x.length->Has G lo hi (A++(famL rt sz c ids x++T)) ->
  ∃ G',ZQ (ZM (d+2)) G ids=some (x.map (λr=>FV.sl (r.map c)),G')
 | [],[],G,lo,hi,A,T,_,H=>⟨G,rfl⟩
 | v::ids,r::x,G,lo,hi,A,T,hl,H=>by
  have hk:(A++(famL rt sz c (v::ids) (r::x)++T))[A.length]? = some (.sl v rt sz (r.map c) true):=by
   rw [YS (YG _),Nat.sub_self];rfl
  obtain ⟨hs,hv⟩:=H.sl hk;obtain ⟨G1,h1,H1⟩ : ∃ G1,ZM (d+2) G v=some (.sl (r.map c),G1)/\∃ lo hi,Has G1 lo hi ((A++[.sl v rt sz (r.map c) false])++(famL rt sz c ids x++T)):=by
   have e:∀ rr,(A++(famL rt sz c (v::ids) (r::x)++T)).set A.length rr=(A++[rr])++(famL rt sz c ids x++T):=λrr=>by
    rw [List.set_append_right _ _ (YG _),Nat.sub_self];simp [famL]
   rcases hv with ⟨rfl,h0⟩|⟨id,rfl,hb⟩
   ·refine ⟨G,by rw [h0];rfl,lo,hi,?_⟩
    have:=H.say hk (r':=.sl .nils rt sz (r.map c) false) ⟨hs,.inl ⟨rfl,h0⟩⟩ rfl
    rwa [e] at this
   ·refine ⟨G.put id (.blk rt (vs (r.map c).flatten) false),?_,lo,hi,?_⟩
    ·rw [Z2o hb (by rw [Zv,Zb hs]),Z5T]
     simp only [Y4,Z2h hs]
    ·have:=H.put hk rfl (r':=.sl (.buf id (r.map c).length sz) rt sz (r.map c) false) ⟨hs,.inr ⟨id,rfl,Z0Y⟩⟩ rfl
     rwa [e] at this
  obtain ⟨lo1,hi1,H1⟩:=H1;obtain ⟨G2,h2⟩:=fam_exp (d:=d) (ids:=ids) (x:=x) (by simpa using hl) H1
  exact ⟨G2,by simp only [ZQ,h1,Y4,h2,Y0C]⟩
 | [],_::_,G,lo,hi,A,T,h,_=>by simp at h
 | _::_,[],G,lo,hi,A,T,h,_=>by simp at h
theorem chunk_one:∀ (l:List FV),chunk 1 l.length l=l.map λy=>[y]
 | []=>rfl
 | y::l=>by simp only [YX,chunk,Y0C];rw [<- chunk_one l];rfl
theorem mat_exp {α:Type} {rt et:TypeId} {sz id k m:Nat} {c:α->List FV} {ids:List PV} {x:List (List α)} {G:Heap} {lo hi:Nat} {L T:List Res} (H:Has G lo hi L) (hk:L[k]? = some (.blk id et ids)) (hL:L.drop (k+1)=famL rt sz c ids x++T) (hM:ids.length=x.length) (hm:ids.length=m) :
  ∃ G',ZM 6 G (.buf id m 1)=some (.sl (x.map λr=>[FV.sl (r.map c)]),G'):=by
 have hb:=H.blk hk
 have H2:=H.put hk rfl (r':=.hole id) (en:=.blk et ids false) trivial rfl
 have hlt:k<L.length:=get_lt hk
 have e:L.set k (.hole id)=(L.take k++[.hole id])++(famL rt sz c ids x++T):=by
  rw [Ys,if_pos hlt,hL];simp
 rw [e] at H2
 obtain ⟨G',h⟩:=fam_exp (d:=3) hM H2
 refine ⟨G',?_⟩
 rw [Z2o hb (by rw [hm];omega)]
 have h':ZQ (ZM 5) (G.put id (.blk et ids false)) ids=some (x.map (λr=>FV.sl (r.map c)),G'):=h
 rw [h']
 simp only [Y4]
 have:m=(x.map (λr=>FV.sl (r.map c))).length:=by rw [Yl];omega
 rw [this,chunk_one,List.map_map]
 rfl
theorem Ends.M {α:Type} {X:Ctx} {rs:List ResultVar} {rt et:TypeId} {sz id m:Nat} {c:α->List FV} {ids:List PV} {x:List (List α)} {e:Env} {G:Heap} {lo hi:Nat} {L T:List Res} {xs:List PV} {r:PV} {ex:Ex} (hx:ex = .normal\/ex = .ret) (H:Has G lo hi L) (k:Nat) (hk:L[k]? = some (.blk id et ids)) (hL:L.drop (k+1)=famL rt sz c ids x++T) (hM:ids.length=x.length) (hm:ids.length=m)
  (h:ZS X.P e G rs=some (.buf id m 1::xs)) (hp:xs.all PV.pure=true) (hr:Z00 (.v (.sl (x.map λr=>[FV.sl (r.map c)]))::xs)=r):Ends X rs r ex e G:=by
 obtain ⟨G',q⟩:=mat_exp H hk hL hM hm
 refine ⟨hx,_,G',h,?_⟩
 have q1:Zx G (.buf id m 1)=some (.v (.sl (x.map λr=>[FV.sl (r.map c)])),G'):=by
  show (ZM 6 G (.buf id m 1)).bind _=_;rw [q];rfl
 rw [<- hr]
 cases xs with
 | nil=>exact q1
 | cons y ys=>
  show (Z0E G (.buf id m 1::y::ys)).bind _=_;simp only [Z0E,q1,Y4];have:=Z2z (G:=G') hp;simp only [Z0E] at this;rw [this]
  rfl
end Go.Dn

namespace Go.Dn
open Go
section
variable {X:Ctx} {f:FuncId} {args:List PV} {r:PV}
theorem Z4m {α:Type} {l:List α} {i:Int} {x:α} (h:l.isEmpty=true) (q:at? l i=some x):False:=by
 cases l with
 | nil=>have:=(at?_some q).2;simp at this
 | cons a l=>cases h
theorem FnO.intr {X:Ctx} {f:FuncId} {args:List PV} {r:PV} (hi:X.intr f args=some r) (hp:args.all PV.pure=true):FnO X f args (λq A=>q=r/\A=[]):=λG T H=>
 ⟨r,G,[],Z0L (lf:=0) (by simp only [Z1i,hi,hp,if_true]),⟨rfl,rfl⟩,H⟩
end
end Go.Dn

namespace Go.Dn
open Go
section
variable {X:Ctx} {n:Nat} {dr:Bool} {ops:Array Oper} {base i:Nat} {l:List Oper} {e:Env} {G:Heap} {K:Env->Heap->Prop}
variable {t1 t:TypeId} {p:String} {af:Array Edge} {x y:Operand} {lo hi:Nat} {L:List Res} {v:PV}
end
end Go.Dn

namespace Go.Dn
open Go
section
variable {X:Ctx} {n:Nat} {dr:Bool} {ops:Array Oper} {base i:Nat} {l:List Oper} {e:Env} {G:Heap} {K:Env->Heap->Prop}
variable {d:Nat} {t t1:TypeId} {p:String} {af:Array Edge} {x y:Operand} {lo hi:Nat} {L:List Res}
end
end Go.Dn

namespace Go.Dn
open Go
section
variable {G:Heap} {lo hi:Nat}
end
section
variable {X:Ctx} {n:Nat} {dr:Bool} {ops:Array Oper} {base i:Nat} {l:List Oper} {e:Env} {G:Heap} {K:Env->Heap->Prop}
variable {d:Nat} {t t1:TypeId} {p:String} {af:Array Edge} {x y:Operand} {lo hi:Nat} {L:List Res}
end
open Classical in
noncomputable def Z48 (X:Ctx) (f:FuncId) (args:List PV):Option PV:=if h:∃ r,Fn X f args r then some h.choose else none
theorem liftI_fn {X:Ctx} {f:FuncId} {args:List PV} {r:PV} (h:Z48 X f args=some r):Fn X f args r:=by
 unfold Z48 at h
 split at h
 ·rename_i hx;cases h;exact hx.choose_spec
 ·cases h
theorem liftI_of {X:Ctx} {f:FuncId} {args:List PV} {r:PV} (h:Fn X f args r):Z48 X f args=some r:=by
 cases hl:Z48 X f args with
 | none=>
  unfold Z48 at hl;rw [dif_pos ⟨r,h⟩] at hl;cases hl
 | some r'=>
  have h2:=(liftI_fn hl).call Heap.empty;rw [h.call Heap.empty] at h2;cases h2
  rfl
end Go.Dn

namespace Go.Dn
open Go
section
variable {X:Ctx} {n:Nat} {dr:Bool} {ops:Array Oper} {base i:Nat} {l:List Oper} {e:Env} {G:Heap} {K:Env->Heap->Prop} {d:Nat} {t t1:TypeId} {p:String} {af:Array Edge} {x y:Operand} {lo hi:Nat} {L:List Res}
theorem Ops.indexG {xs:List Int} {iv u:Int} {ik:IntKind} {el:TypeId} {m:Nat} (hx:Z0 X e x=some (.fptr (xs.map (FV.int .i64)))) (hy:Z0 X e y=some (.v (.int ik iv))) (hu:at? xs iv=some u)
  (ht:tarray X.P t1=some (m,el)) (hs:tsize X.P el=some 1) (hm:xs.length=m) (hd:Nat.blt d n=true)
  (hk':∀ tl,Ops X n dr ops base (i+1) l (set e d (.fptr (.int .i64 u::tl))) G K):Ops X n dr ops base i (⟨some d,.indexAddr t1 x y,t,p,af,none⟩::l) e G K:=by
 obtain ⟨h0,hu⟩:=at?_some hu
 obtain ⟨h1,h2⟩:=List.getElem?_eq_some_iff.1 hu
 have hd2:(xs.map (FV.int .i64)).drop (iv.toNat*1) = .int .i64 u::(xs.map (FV.int .i64)).drop (iv.toNat+1):=by
  rw [Nat.mul_one,Y0V (by simpa using h1)]
  simp [h2]
 refine .plain (x:=.fptr (.int .i64 u::(xs.map (FV.int .i64)).drop (iv.toNat+1))) (G1:=G) ?_ (λh=>Z0r rfl ?_) hd (hk' _)
 ·have h3:iv.toNat<m:=by omega
  have h4:(iv.toNat+1)*1<=(xs.map (FV.int .i64)).length:=by simp;omega
  simp only [Z1,hx,hy,Zo,Z2C,if_pos h0,ht,if_pos h3,hs,Y4,if_pos h4,hd2,YE]
 ·simp only [touched,ZB,YI,YK,hx,vids,YL]
def Res.made:Res->Bool
 | .blk .. | .sl .. | .mp ..=>true
 | _=>false
theorem has_join {ρ:Heap} {A T:List Res} (HT:Hs G T) (HA:Hs ρ A) (hn:G.nx<=ρ.nx) (hρ:∀ k,k<G.nx->ρ.ent k = .none) (hA:A.all Res.made=true):Hs (G.join ρ) (A++T):=by
 rw [YJ] at hA
 have own:∀ {k:Nat} {r:Res},A[k]? = some r->∀ id,r.owner=some id->ρ.ent id ≠ .none:=λ{k r} hk id ho=>by
  have h1:=HA.holds k r hk;have h2:=hA r (YH hk)
  cases r with
  | blk id' t c=>cases ho;simp only [Res.holds] at h1;rw [h1];simp
  | mp id' kv=>cases ho;simp only [Res.holds] at h1;rw [h1];simp
  | sl v e sz xs lv=>
   obtain ⟨_,⟨rfl,_⟩|⟨id',rfl,h3⟩⟩:=h1
   ·cases ho
   ·cases ho;rw [h3];simp
  | _=>cases h2
 have ge:∀ {k:Nat} {r:Res},A[k]? = some r->∀ id,r.owner=some id->G.nx<=id:=λhk id ho=>Nat.le_of_not_lt λh=>own hk id ho (hρ id h)
 have cases_:∀ {k:Nat} {r:Res},(A++T)[k]? = some r->(k<A.length/\A[k]? = some r)\/(A.length<=k/\T[k-A.length]? = some r):=λ{k r} hk=>by
  rcases YT k A.length with h|h
  ·rw [YM h] at hk;exact .inl ⟨h,hk⟩
  ·rw [YS h] at hk;exact .inr ⟨h,hk⟩
 refine ⟨λk r hk=>?_,λk r hk id ho=>?_,λj k r s hne hj hk id ho=>?_,YG _⟩
 ·rcases cases_ hk with ⟨_,hk⟩|⟨_,hk⟩
  ·have h1:=HA.holds _ r hk;have h2:=hA r (YH hk)
   cases r with
   | blk id t c=>exact (Z4v (own hk id rfl)).trans h1
   | mp id kv=>exact (Z4v (own hk id rfl)).trans h1
   | sl v e sz xs lv=>
    obtain ⟨h3,⟨rfl,h4⟩|⟨id,rfl,h4⟩⟩:=h1
    ·exact ⟨h3,.inl ⟨rfl,h4⟩⟩
    ·exact ⟨h3,.inr ⟨id,rfl,(Z4v (own hk id rfl)).trans h4⟩⟩
   | _=>cases h2
  ·have h1:=HT.holds _ r hk;have h2:∀ id,r.owner=some id->(G.join ρ).ent id=G.ent id:=λid ho=>Z2X (hρ id (HT.lt _ r hk id ho).2)
   cases r with
   | blk id t c=>exact (h2 id rfl).trans h1
   | mp id kv=>exact (h2 id rfl).trans h1
   | sl v e sz xs lv=>
    obtain ⟨h3,⟨rfl,h4⟩|⟨id,rfl,h4⟩⟩:=h1
    ·exact ⟨h3,.inl ⟨rfl,h4⟩⟩
    ·exact ⟨h3,.inr ⟨id,rfl,(h2 id rfl).trans h4⟩⟩
   | floor m=>exact YW h1 hn
   | hole id=>trivial
   | loop id fn e n ps as_ bo st pd=>exact (h2 id rfl).trans h1
   | fix id en=>exact (h2 id rfl).trans h1
 ·rcases cases_ hk with ⟨_,hk⟩|⟨_,hk⟩
  ·have:=(HA.lt _ r hk id ho).2;exact ⟨YT _ _,this⟩
  ·have:=(HT.lt _ r hk id ho).2;exact ⟨YT _ _,YN this hn⟩
 ·rcases cases_ hj with ⟨q1,hj⟩|⟨q1,hj⟩<;>rcases cases_ hk with ⟨q2,hk⟩|⟨q2,hk⟩
  ·exact HA.sep j k r s hne hj hk id ho
  ·intro h;have a:=ge hj id ho;have b:=(HT.lt _ s hk id h).2;omega
  ·intro h;have a:=ge hk id h;have b:=(HT.lt _ r hj id ho).2;omega
  ·exact HT.sep _ _ r s (by omega) hj hk id ho
theorem FnO.ofFresh {f:FuncId} {fu:Func} {c:Code} {m:Nat} {args:List PV} {PostA:PV->List Res->Prop} (hf:X.P.funcs[f]? = some fu) (hb:fu.body=some c) (hi:X.intr f args=none) (hk:X.keep f=false) (ho:X.opn f=true) (hp:args.all PV.pure=true) (hm:max fu.ntmps args.length=m)
  (h:∀ G T,Hs G T->Runs X m f c (Z28 args) G λx e G'=>(x = .normal\/x = .ret)/\∃ xs,ZS X.P e G' fu.results.toList=some xs/\∃ A,PostA (Z00 xs) A/\Hs G' (A++T)) (hA:∀ r A,PostA r A->A.all Res.made=true) (hq:X.prim f=none:=by rfl) (hfr:X.fresh f=true:=by rfl):FnO X f args PostA:=by
 intro G T H
 subst hm
 obtain ⟨lf,x,e',ρ,h1,hx,xs,h2,A,h3,h4⟩:=(h (G.only []) [] (Has.nil (YG _))).run
 rw [YL] at h4
 have hbody:Zp X (ZT X) lf f args (G.only [])=some (Z00 xs,ρ):=by
  simp only [Zp,hq,hf,hb,h1];rcases hx with rfl|rfl<;>simp only [h2,YE]
 have ht:=Z1W (Z65 (X:=X)) hbody
 refine ⟨Z00 xs,G.join ρ,A,?_,h3,has_join H h4 ht.1 (λk hk=>ht.2 k hk (by simp) rfl) (hA _ _ h3)⟩
 show ZT X (.fn f) args G=_
 exact Z0L (lf:=lf) (by simp only [Z1i,hi,hk,YF,if_false,Z0H hp,ho,if_true,hfr,hp,Yt,hbody,YE])
theorem Ops.Z5I {f:FuncId} {args:Array Operand} {ts:Array TypeId} {ys:List PV} {PostA:PV->List Res->Prop} (H:Has G lo hi L) (ha:ZC X e args.toList=some ys) (hf:FnO X f ys PostA) (hfk:(X.fresh f,X.opn f,X.keep f,ys.all PV.pure)=(true,true,false,true)) (hh:base+ops.size<=hi) (hq:dr=true->Z2R ops i=true) (hd:Nat.blt d n=true)
  (hk:∀ r A' G',PostA r A'->Has G' lo hi (A'++L)->Ops X n dr ops base (i+1) l (set e d r) G' K) :
  Ops X n dr ops base i (⟨some d,.call { callee:=.value (.func f),args:=args,argTypes:=ts },t,p,af,none⟩::l) e G K:=by
 simp only [Y5] at hfk
 obtain ⟨f1,f2,f3,f4⟩:=hfk
 obtain ⟨r,G',A',q1,q2,q3⟩:=Z4E [] H (λT _ H=>hf G T H)
 have q0:ZT X (.fn f) ys G=some (r,G'):=q1
 refine .stepS (e1:=set e d r) (G1:=G') ?_ (λhdr=>⟨rfl,.inr (.inr ⟨?_,YW hh H.le⟩)⟩) (hk r A' G' q2 q3)
 ·simp only [Zm,ZP,Z1,ZO,ha,Z0,q0,Y4,putD,if_pos (Z59 hd),set_eq]
 ·unfold Z1I;simp only [hq hdr,ha,Z0,f1,f2,f3,f4,Y0b,Yt]
end
end Go.Dn

namespace Go.Dn
open Go
noncomputable section
def Z1E:List Int:=[0,31,59,90,120,151,181,212,243,273,304,334,365]
structure Span where
 From:Int
 To:Int
 deriving DecidableEq
def Span.cs (x:Span):List FV:=[(.int .i64 x.From),(.int .i64 x.To)]
def Span.ok (x:Span):Prop:=okI .i64 x.From/\okI .i64 x.To
structure Granule where
 Index:Int
 Ticks:(List Span)
 deriving DecidableEq
def Granule.cs (x:Granule):List FV:=[(.int .i64 x.Index),(.sl (x.Ticks.map Span.cs))]
def Granule.ok (x:Granule):Prop:=okI .i64 x.Index/\okL 16 Span.ok x.Ticks
structure Form where
 Period:Int
 Count:Int
 Core:(List (List Span))
 Odd:(List Granule)
 deriving DecidableEq
def Form.cs (x:Form):List FV:=[(.int .i64 x.Period),(.int .i64 x.Count),(.sl (x.Core.map (cL Span.cs))),(.sl (x.Odd.map Granule.cs))]
def Form.ok (x:Form):Prop:=okI .i64 x.Period/\okI .i64 x.Count/\okL 24 (okL 16 Span.ok) x.Core/\okL 32 Granule.ok x.Odd
structure Anon48 where
 name:ByteArray
 index:Int
 deriving DecidableEq
def Anon48.cs (x:Anon48):List FV:=[(.str x.name),(.int .i64 x.index)]
def Anon48.ok (x:Anon48):Prop:=okS x.name/\okI .i64 x.index
def Z0X (t:Int):Bool :=
 ((decide (t>=(-1099511627776)))&&(decide (t<=1099511627776)))
def Z15 (i:Int):Bool :=
 ((decide (i>=(-1099511627776)))&&(decide (i<=1099511627776)))
def Z2.s0 (x':(List Granule)) (target:Int) (cmp:Granule->Int->Option Int) (s1:Int×Int):Option ((Int×Int)⊕(Int)) :=
 (bif (decide (s1.1<s1.2)) then
  (
   (at? x' (w64 ((IntKind.u64.wrap (w64 (s1.1+s1.2))).fdiv (2 ^ 1)))).bind λx1=>
   (cmp x1 target).bind λx2=>
   (bif (decide (x2<0)) then
    some ((w64 ((w64 ((IntKind.u64.wrap (w64 (s1.1+s1.2))).fdiv (2 ^ 1)))+1)),s1.2)
   else
    some (s1.1,(w64 ((IntKind.u64.wrap (w64 (s1.1+s1.2))).fdiv (2 ^ 1)))))).bind λ(y2:Int×Int)=>
  some (.inl (y2.1,y2.2))
 else
  some (.inr s1.1))
def Z2 (x':(List Granule)) (target:Int) (cmp:Granule->Int->Option Int):Option (Int×Bool) :=
 (loopO (Z2.s0 x' target cmp) (0,(x'.length:Int))).bind λ(y1:Int)=>
 (
  (bif (decide (y1<(x'.length:Int))) then
   (at? x' y1).bind λx3=>
   (cmp x3 target).bind λx4=>
   some (x4==0)
  else
   some false)).bind λ(y3:Bool)=>
 some (y1,y3)
def Z0b (x':Int):Bool :=
 (x' != x')
def Z0Z (x':Int) (y:Int):Int :=
 (bif (Z0b x') then
  (bif (Z0b y) then
   0
  else
   (-1))
 else
  (bif (Z0b y) then
   1
  else
   (bif (decide (x'<y)) then
    (-1)
   else
    (bif (decide (x'>y)) then
     1
    else
     0))))
def Z1Q (g:Granule) (i:Int):Int :=
 (Z0Z g.Index i)
def Z3V (f:Form) (i:Int):Option (Int×Bool) :=
 (Z2 f.Odd i (λz0 z1=>some (Z1Q z0 z1))).bind λx1=>
 some (x1.1,x1.2)
def Z24 (a:Int) (b:Int):Option (Int×Int×Int) :=
 (bif (b==0) then
  some (0,0,11)
 else
  (bif ((b==(-1))&&(a==(-9223372036854775808))) then
   some (0,0,10)
  else
   (nz? b).bind λu1=>
   (nz? b).bind λu2=>
   (
    (bif (((a.tmod b) != 0)&&((decide ((a.tmod b)<0)) != (decide (b<0)))) then
     some ((w64 ((w64 (a.tdiv b))-1)),(w64 ((a.tmod b)+b)))
    else
     some ((w64 (a.tdiv b)),(a.tmod b)))).bind λ(y1:Int×Int)=>
   some (y1.1,y1.2,0)))
def Z01 (a:Int):Int :=
 (bif (decide (a<0)) then
  (IntKind.u64.wrap (0-(IntKind.u64.wrap a)))
 else
  (IntKind.u64.wrap a))
def Zl (x':Int) (y:Int):Int×Int :=
 ((IntKind.u64.wrap ((IntKind.u64.wrap ((IntKind.u64.wrap ((x'.fdiv (2 ^ 32))*(y.fdiv (2 ^ 32))))+((IntKind.u64.wrap ((IntKind.u64.wrap ((x'.fdiv (2 ^ 32))*(iAnd .u64 y 4294967295)))+((IntKind.u64.wrap ((iAnd .u64 x' 4294967295)*(iAnd .u64 y 4294967295))).fdiv (2 ^ 32)))).fdiv (2 ^ 32))))+((IntKind.u64.wrap ((iAnd .u64 (IntKind.u64.wrap ((IntKind.u64.wrap ((x'.fdiv (2 ^ 32))*(iAnd .u64 y 4294967295)))+((IntKind.u64.wrap ((iAnd .u64 x' 4294967295)*(iAnd .u64 y 4294967295))).fdiv (2 ^ 32)))) 4294967295)+(IntKind.u64.wrap ((iAnd .u64 x' 4294967295)*(y.fdiv (2 ^ 32)))))).fdiv (2 ^ 32)))),(IntKind.u64.wrap (x'*y)))
def Z11 (n:Int) (minus:Bool):Int×Int :=
 (bif (minus&&(decide (n<=9223372036854775808))) then
  ((w64 (IntKind.u64.wrap (0-n))),0)
 else
  (bif ((!minus)&&(decide (n<=9223372036854775807))) then
   ((w64 n),0)
  else
   (0,10)))
def Z1h (a:Int) (b:Int):Int×Int :=
 (bif (((Zl (Z01 a) (Z01 b)).1) != 0) then
  (0,10)
 else
  ((Z11 ((Zl (Z01 a) (Z01 b)).2) ((decide (a<0)) != (decide (b<0)))).1,(Z11 ((Zl (Z01 a) (Z01 b)).2) ((decide (a<0)) != (decide (b<0)))).2))
def Z1S (f:Form) (i:Int):Option ((List Span)×Int×Int) :=
 (Z3V f i).bind λx1=>
 (bif x1.2 then
  (at? f.Odd x1.1).bind λx2=>
  some (x2.Ticks,0,0)
 else
  (bif (f.Count==0) then
   some ([],0,0)
  else
   (Z24 i f.Count).bind λx3=>
   (at? f.Core x3.2.1).bind λx4=>
   some (x4,(Z1h x3.1 f.Period).1,(Z1h x3.1 f.Period).2)))
def ZG (a:Int) (b:Int):Int×Int :=
 (bif (((decide ((w64 (a+b))>a)) != (decide (b>0)))&&(b != 0)) then
  (0,10)
 else
  ((w64 (a+b)),0))
def Zn.s0 (l:(List Span)) (by':Int) (s2:Int×(List Span)):Option ((Int×(List Span))⊕(Jx ((List Span)) ((List Span)×Int))) :=
 (bif (decide (s2.1<(l.length:Int))) then
  (at? l s2.1).bind λx1=>
  (bif ((((((ZG x1.From by').2) != 0)||(((ZG x1.To by').2) != 0))||(!(Z0X ((ZG x1.From by').1))))||(!(Z0X ((ZG x1.To by').1)))) then
   some (.inr (.ret ([],20)))
  else
   (app? 16 s2.2 [(Span.mk ((ZG x1.From by').1) ((ZG x1.To by').1))]).bind λx2=>
   some (.inl ((w64 (s2.1+1)),x2)))
 else
  some (.inr (.go s2.2)))
def Zn (l:(List Span)) (by':Int):Option ((List Span)×Int) :=
 (loopO (Zn.s0 l by') (0,[])).bind λ(y1:Jx ((List Span)) ((List Span)×Int))=>
 y1.elim (λr'=>
   some r') λa2=>
 some (a2,0)
def Z19 (f:Form) (i:Int):Option ((List Span)×Int) :=
 (bif (!(Z15 i)) then
  some ([],20)
 else
  (Z1S f i).bind λx1=>
  (bif ((x1.1.length:Int)==0) then
   some ([],0)
  else
   (bif (x1.2.2 != 0) then
    some ([],20)
   else
    (Zn x1.1 x1.2.1).bind λx2=>
    some (x2.1,x2.2))))
def Z8:(List ByteArray) :=
 [(ByteArray.mk #[116,105,99,107]),(ByteArray.mk #[100,97,121]),(ByteArray.mk #[119,101,101,107]),(ByteArray.mk #[109,111,110,116,104]),(ByteArray.mk #[113,117,97,114,116,101,114]),(ByteArray.mk #[121,101,97,114])]
def ZE (from':Int) (to':Int):Form :=
 (Form.mk (w64 ((w64 (to'-from'))+1)) 1 [[(Span.mk from' to')]] [])
def Z1U (year:Int):Bool :=
 (((iAnd .i64 year 3)==0)&&(((year.tmod 25) != 0)||((iAnd .i64 year 15)==0)))
def Z22 (year:Int) (months:Int):Int :=
 (bif ((decide (months>=2))&&(Z1U year)) then
  1
 else
  0)
def Z0y (year:Int) (months:Int):Option (Int) :=
 (at? Z1E months).bind λx1=>
 some (w64 (x1+(Z22 year months)))
def Z0p (year:Int) (month:Int):Option (Int) :=
 (bif ((decide (month<1))||(decide (month>12))) then
  some 0
 else
  (Z0y year month).bind λx1=>
  (Z0y year (w64 (month-1))).bind λx2=>
  some (w64 (x1-x2)))
def Z0U (n:Int) (by':Int):Option (Int×Int) :=
 (nz? by').bind λu1=>
 (nz? by').bind λu2=>
 (
  (bif (decide ((n.tmod by')<0)) then
   some ((w64 ((w64 (n.tdiv by'))-1)),(w64 ((n.tmod by')+by')))
  else
   some ((w64 (n.tdiv by')),(n.tmod by')))).bind λ(y1:Int×Int)=>
 some (y1.1,y1.2)
def Z16 (year:Int):Option (Int) :=
 (Z0U (w64 (year-1)) 4).bind λx1=>
 (Z0U (w64 (year-1)) 100).bind λx2=>
 (Z0U (w64 (year-1)) 400).bind λx3=>
 some (w64 ((w64 ((w64 ((w64 ((w64 (365*(w64 (year-1))))+x1.1))-x2.1))+x3.1))-719162))
def Z03 (year:Int) (month:Int) (day:Int):Option (Int×Int) :=
 (
  (bif (((decide (year<(-9999)))||(decide (year>9999)))||(decide (day<1))) then
   some true
  else
   (Z0p year month).bind λx1=>
   some (decide (day>x1)))).bind λ(y1:Bool)=>
 (bif y1 then
  some (0,30)
 else
  (Z16 year).bind λx2=>
  (Z0y year (w64 (month-1))).bind λx3=>
  some ((w64 (x2+(w64 ((w64 (x3+day))-1)))),0))
def Z0q (month:Int):Option (Int) :=
 (bif (month==4800) then
  some 146097
 else
  (Z03 (w64 (1970+(w64 (month.tdiv 12)))) (w64 ((month.tmod 12)+1)) 1).bind λx1=>
  some x1.1)
def ZX.s0 (n:Int) (s2:Int×(List (List Span))):Option ((Int×(List (List Span)))⊕((List (List Span))×Int)) :=
 (bif (decide (s2.1<(w64 ((4800:Int).tdiv n)))) then
  (Z0q (w64 (s2.1*n))).bind λx1=>
  (Z0q (w64 ((w64 (s2.1*n))+n))).bind λx2=>
  (app? 24 s2.2 [[(Span.mk x1 (w64 (x2-1)))]]).bind λx3=>
  some (.inl ((w64 (s2.1+1)),x3))
 else
  some (.inr (s2.2,(w64 ((4800:Int).tdiv n)))))
def ZX (n:Int):Option (Form) :=
 (nz? n).bind λu1=>
 (loopO (ZX.s0 n) (0,[])).bind λ(y1:(List (List Span))×Int)=>
 some (Form.mk 146097 y1.2 y1.1 [])
def Z0n (at':Int):Option (Form) :=
 (
  (
   (
    (bif (at'==0) then
     some (at'==0)
    else
     some (at'==1))).bind λ(y3:Bool)=>
   (bif y3 then
    some (.ret (ZE 0 0))
   else
    (bif (at'==2) then
     some (.ret (ZE (-3) 3))
    else
     (bif (at'==3) then
      (ZX 1).bind λx1=>
      some (.ret x1)
     else
      (bif (at'==4) then
       (ZX 3).bind λx2=>
       some (.ret x2)
      else
       some (.go ())))))).bind λ(y2:Jx (Unit) (Form))=>
  y2.elim (λr'=>
    some (.ret r')) λa3=>
  some (.go ())).bind λ(y1:Jx (Unit) (Form))=>
 y1.elim (λr'=>
   some r') λa4=>
 (ZX 12).bind λx3=>
 some x3
def Z4.s0 (s:(List ByteArray)) (v:ByteArray) (s1:Int):Option ((Int)⊕(Jx (Unit) (Int))) :=
 (bif (decide (s1<(s.length:Int))) then
  (at? s s1).bind λx1=>
  (bif (v.toList==x1.toList) then
   some (.inr (.ret s1))
  else
   some (.inl (w64 (s1+1))))
 else
  some (.inr (.go ())))
def Z4 (s:(List ByteArray)) (v:ByteArray):Option (Int) :=
 (loopO (Z4.s0 s v) 0).bind λ(y1:Jx (Unit) (Int))=>
 y1.elim (λr'=>
   some r') λa2=>
 some (-1)
def ZD (f:Form) (i:Int):Option (Span) :=
 (
  (bif (decide (i>=(f.Core.length:Int))) then
   some true
  else
   (at? f.Core i).bind λx1=>
   some ((x1.length:Int) != 1))).bind λ(y1:Bool)=>
 (bif y1 then
  some (Span.mk 0 0)
 else
  (at? f.Core i).bind λx2=>
  (at? x2 0).bind λx3=>
  some x3)
def ZW (s:(List (List Span))):Option ((List (List Span))) :=
 (some? s).bind λu1=>
 (app? 24 [] s).bind λx1=>
 some x1
def ZV (s:(List Granule)):Option ((List Granule)) :=
 (some? s).bind λu1=>
 (app? 32 [] s).bind λx1=>
 some x1
def Z9.s0 (f:Form) (s1:Unit):Option ((Unit)⊕(Unit)) :=
 (bif (decide (0<(f.Core.length:Int))) then
  (at? f.Core 0).bind λx1=>
  none
 else
  some (.inr ()))
def Z9.s1 (f:Form) (s2:Unit):Option ((Unit)⊕(Unit)) :=
 (bif (decide (0<(f.Odd.length:Int))) then
  (at? f.Odd 0).bind λx2=>
  none
 else
  some (.inr ()))
def Z9.s2 (f:Form) (s3:Unit):Option ((Unit)⊕(Unit)) :=
 (bif (decide (0<(f.Core.length:Int))) then
  (at? f.Core 0).bind λx4=>
  none
 else
  some (.inr ()))
def Z9.s3 (x3:(List Granule)) (s4:Int×(List Granule)):Option ((Int×(List Granule))⊕((List Granule))) :=
 (bif (decide (s4.1<(x3.length:Int))) then
  (at? s4.2 s4.1).bind λx5=>
  (clone? 16 x5.Ticks).bind λx6=>
  (at? s4.2 s4.1).bind λx7=>
  some (.inl ((w64 (s4.1+1)),(s4.2.set (s4.1).toNat (Granule.mk x7.Index x6))))
 else
  some (.inr s4.2))
def Z9.s4 (x8:(List (List Span))) (s5:Int×(List (List Span))):Option ((Int×(List (List Span)))⊕((List (List Span)))) :=
 (bif (decide (s5.1<(x8.length:Int))) then
  (at? s5.2 s5.1).bind λx9=>
  (clone? 16 x9).bind λx10=>
  (at? s5.2 s5.1).bind λx11=>
  some (.inl ((w64 (s5.1+1)),(s5.2.set (s5.1).toNat x10)))
 else
  some (.inr s5.2))
def Z9.s5 (f:Form) (s6:Unit):Option ((Unit)⊕(Unit)) :=
 (bif (decide (0<(f.Odd.length:Int))) then
  (at? f.Odd 0).bind λx12=>
  none
 else
  some (.inr ()))
def Z9.s6 (x8:(List (List Span))) (s7:Int×(List (List Span))):Option ((Int×(List (List Span)))⊕((List (List Span)))) :=
 (bif (decide (s7.1<(x8.length:Int))) then
  (at? s7.2 s7.1).bind λx14=>
  (clone? 16 x14).bind λx15=>
  (at? s7.2 s7.1).bind λx16=>
  some (.inl ((w64 (s7.1+1)),(s7.2.set (s7.1).toNat x15)))
 else
  some (.inr s7.2))
def Z9.s7 (x13:(List Granule)) (s8:Int×(List Granule)):Option ((Int×(List Granule))⊕((List Granule))) :=
 (bif (decide (s8.1<(x13.length:Int))) then
  (at? s8.2 s8.1).bind λx17=>
  (clone? 16 x17.Ticks).bind λx18=>
  (at? s8.2 s8.1).bind λx19=>
  some (.inl ((w64 (s8.1+1)),(s8.2.set (s8.1).toNat (Granule.mk x19.Index x18))))
 else
  some (.inr s8.2))
def Z9 (f:Form):Option (Form) :=
 (bif (f.Core.isEmpty) then
  (bif (f.Odd.isEmpty) then
   (loopO (Z9.s0 f) ()).bind λ(y1:Unit)=>
   (loopO (Z9.s1 f) ()).bind λ(y2:Unit)=>
   some f
  else
   (ZV f.Odd).bind λx3=>
   (loopO (Z9.s2 f) ()).bind λ(y3:Unit)=>
   (loopO (Z9.s3 x3) (0,x3)).bind λ(y4:(List Granule))=>
   some (Form.mk f.Period f.Count f.Core y4))
 else
  (ZW f.Core).bind λx8=>
  (bif (f.Odd.isEmpty) then
   (loopO (Z9.s4 x8) (0,x8)).bind λ(y5:(List (List Span)))=>
   (loopO (Z9.s5 f) ()).bind λ(y6:Unit)=>
   some (Form.mk f.Period f.Count y5 f.Odd)
  else
   (ZV f.Odd).bind λx13=>
   (loopO (Z9.s6 x8) (0,x8)).bind λ(y7:(List (List Span)))=>
   (loopO (Z9.s7 x13) (0,x13)).bind λ(y8:(List Granule))=>
   some (Form.mk f.Period f.Count y7 y8)))
def Z0a (days:Int):Option (Int) :=
 (Z0U (w64 ((days.tmod 7)+3)) 7).bind λx1=>
 some (w64 (x1.2+1))
def Z09 (name:ByteArray) (s:(List (Option Form))×Int):Option ((Form×Int)×((List (Option Form))×Int)) :=
 (bif (s.1.length==6) then
  (Z4 Z8 name).bind λi=>
  (bif (decide (i<0)) then
   some (((Form.mk 0 0 [] []),80),s)
  else
   (at? s.1 i).bind λk=>
   match k with
   | some f=>(Z9 f).bind λg=>some ((g,0),s)
   | none=>(Z0n i).bind λf=>(Z9 f).bind λg=>some ((g,0),(s.1.set i.toNat (some f),(w64 (s.2+1)))))
 else
  none)
def Z0e:Option (Bool) :=
 (Z09 (ByteArray.mk #[119,101,101,107]) ([none,none,none,none,none,none],0)).bind λx1=>
 (Z09 (ByteArray.mk #[109,111,110,116,104]) (x1.2.1,x1.2.2)).bind λx2=>
 (Z09 (ByteArray.mk #[121,101,97,114]) (x2.2.1,x2.2.2)).bind λx3=>
 (Z09 (ByteArray.mk #[104,111,117,114]) (x3.2.1,x3.2.2)).bind λx4=>
 (
  (bif (((x1.1.2 != 0)||(x1.1.1.Period != 7))||(x1.1.1.Count != 1)) then
   some true
  else
   (ZD (Form.mk x1.1.1.Period x1.1.1.Count x1.1.1.Core x1.1.1.Odd) 0).bind λx5=>
   some (!((x5.From==(-3))&&((x5.To==3)&&true))))).bind λ(y1:Bool)=>
 (
  (bif (y1||(x2.1.2 != 0)) then
   some true
  else
   (ZD (Form.mk x2.1.1.Period x2.1.1.Count x2.1.1.Core x2.1.1.Odd) 1).bind λx6=>
   some (!((x6.From==31)&&((x6.To==58)&&true))))).bind λ(y2:Bool)=>
 (
  (bif y2 then
   some true
  else
   (ZD (Form.mk x2.1.1.Period x2.1.1.Count x2.1.1.Core x2.1.1.Odd) 25).bind λx7=>
   some (!((x7.From==761)&&((x7.To==789)&&true))))).bind λ(y3:Bool)=>
 (bif y3 then
  some false
 else
  (
   (bif (x3.1.2==0) then
    (ZD (Form.mk x3.1.1.Period x3.1.1.Count x3.1.1.Core x3.1.1.Odd) 0).bind λx8=>
    some ((x8.From==0)&&((x8.To==364)&&true))
   else
    some false)).bind λ(y4:Bool)=>
  (
   (bif y4 then
    (ZD (Form.mk x3.1.1.Period x3.1.1.Count x3.1.1.Core x3.1.1.Odd) 1).bind λx9=>
    some ((x9.From==365)&&((x9.To==729)&&true))
   else
    some false)).bind λ(y5:Bool)=>
  (
   (bif y5 then
    (ZD (Form.mk x3.1.1.Period x3.1.1.Count x3.1.1.Core x3.1.1.Odd) 2).bind λx10=>
    some ((x10.From==730)&&((x10.To==1095)&&true))
   else
    some false)).bind λ(y6:Bool)=>
  some ((y6&&(x4.1.2==80))&&(x4.2.2==3)))
def Z0O:Bool:=true
def Z7.s0 (year:Int) (month:Int) (x1:Int×Int) (s1:Int×Int×(List (Option Form))):Option ((Int×Int×(List (Option Form)))⊕(Jx (Int×(List (Option Form))) (Bool))) :=
 (bif (decide (s1.1<([(Anon48.mk (ByteArray.mk #[100,97,121]) x1.1),(Anon48.mk (ByteArray.mk #[109,111,110,116,104]) (w64 ((w64 ((w64 ((w64 (year-1970))*12))+month))-1))),(Anon48.mk (ByteArray.mk #[113,117,97,114,116,101,114]) (w64 ((w64 ((w64 ((w64 ((w64 ((w64 (year-1970))*12))+month))-1))-((w64 (month-1)).tmod 3))).tdiv 3))),(Anon48.mk (ByteArray.mk #[121,101,97,114]) (w64 (year-1970)))].length:Int))) then
  (at? [(Anon48.mk (ByteArray.mk #[100,97,121]) x1.1),(Anon48.mk (ByteArray.mk #[109,111,110,116,104]) (w64 ((w64 ((w64 ((w64 (year-1970))*12))+month))-1))),(Anon48.mk (ByteArray.mk #[113,117,97,114,116,101,114]) (w64 ((w64 ((w64 ((w64 ((w64 ((w64 (year-1970))*12))+month))-1))-((w64 (month-1)).tmod 3))).tdiv 3))),(Anon48.mk (ByteArray.mk #[121,101,97,114]) (w64 (year-1970)))] s1.1).bind λx2=>
  (Z09 x2.name (s1.2.2,s1.2.1)).bind λx3=>
  (Z19 (Form.mk x3.1.1.Period x3.1.1.Count x3.1.1.Core x3.1.1.Odd) x2.index).bind λx4=>
  (
   (bif (((x3.1.2 != 0)||(x4.2 != 0))||((x4.1.length:Int) != 1)) then
    some true
   else
    (at? x4.1 0).bind λx5=>
    some (decide (x1.1<x5.From)))).bind λ(y2:Bool)=>
  (
   (bif y2 then
    some true
   else
    (at? x4.1 0).bind λx6=>
    some (decide (x1.1>x6.To)))).bind λ(y3:Bool)=>
  (bif y3 then
   some (.inr (.ret false))
  else
   some (.inl ((w64 (s1.1+1)),x3.2.2,x3.2.1)))
 else
  some (.inr (.go (s1.2.1,s1.2.2))))
def Z7.s1 (x1:Int×Int) (x7:(Form×Int)×((List (Option Form))×Int)) (s2:Int):Option ((Int)⊕(Jx (Unit) (Bool))) :=
 (bif (decide (s2<=(w64 ((w64 ((w64 (x1.1.tdiv 7))-1))+3)))) then
  (Z19 (Form.mk x7.1.1.Period x7.1.1.Count x7.1.1.Core x7.1.1.Odd) s2).bind λx8=>
  (
   (bif (((x7.1.2 != 0)||(x8.2 != 0))||((x8.1.length:Int) != 1)) then
    some true
   else
    (at? x8.1 0).bind λx9=>
    (Z0a x9.From).bind λx10=>
    some (x10 != 1))).bind λ(y5:Bool)=>
  (
   (bif y5 then
    some true
   else
    (at? x8.1 0).bind λx11=>
    (at? x8.1 0).bind λx12=>
    some ((w64 (x11.To-x12.From)) != 6))).bind λ(y6:Bool)=>
  (bif y6 then
   some (.inr (.ret false))
  else
   (at? x8.1 0).bind λx13=>
   (
    (bif (decide (x1.1>=x13.From)) then
     (at? x8.1 0).bind λx14=>
     some (decide (x1.1<=x14.To))
    else
     some false)).bind λ(y7:Bool)=>
   (bif y7 then
    some (.inr (.ret Z0O))
   else
    some (.inl (w64 (s2+1)))))
 else
  some (.inr (.go ())))
def Z7 (year:Int) (month:Int) (day:Int):Option (Bool) :=
 (Z03 year month day).bind λx1=>
 (bif (x1.2 != 0) then
  some Z0O
 else
  (loopO (Z7.s0 year month x1) (0,0,[none,none,none,none,none,none])).bind λ(y1:Jx (Int×(List (Option Form))) (Bool))=>
  y1.elim (λr'=>
    some r') λa2=>
  (Z09 (ByteArray.mk #[119,101,101,107]) (a2.2,a2.1)).bind λx7=>
  (loopO (Z7.s1 x1 x7) (w64 ((w64 (x1.1.tdiv 7))-1))).bind λ(y4:Jx (Unit) (Bool))=>
  y4.elim (λr'=>
    some r') λa4=>
  some false)
end
end Go.Dn

namespace Go.Dn
open Go Go.Proofs
def Z2m (sz by_:Nat):List PV->Option PV
 | [.v (.sl xs)]=>if (xs.all λy=>y.length==sz)=true/\xs.length*by_<=room then some (.v (.sl xs)) else none
 | _=>none
noncomputable def CA:Ctx:={ P:=Tryd.prog,glob:=λ_=>none,intr:=λf args=>if f=45 then Z2m 1 24 args else if f=46 then Z2m 2 32 args else if f=47 then Z2m 2 16 args else none,opn:=λf=>false,keep:=λf=>false,lit:=true }
noncomputable def C0:Ctx:={ P:=Tryd.prog,glob:=λ_=>none,intr:=λ_ _=>none,opn:=λ_=>false,keep:=λ_=>false }
theorem Z4T:ProgOK Tryd.prog:=by
 refine ⟨λf fn h=>?_,by kernel_rfl⟩
 have hall : Tryd.prog.funcs.all (fun fn => !(fn.name == "runtime.NumGoroutine")) = true := by kernel_rfl
 have:=Array.all_eq_true_iff_forall_mem.1 hall fn (Array.mem_of_getElem? h)
 simpa using this
theorem c0_ok:CtxOK C0:=⟨Z4T,λf args r h=>(by cases h),λf p h=>(by cases h)⟩
theorem Z51 (f:FuncId) (fu:Func) (vs:Array Value) (w:World) (hf:Tryd.prog.funcs[f]? = some fu) (hb:fu.body.isSome=true):(callFunc f vs).run Tryd.prog w = .ok (.enter f vs) w:=by
 have hp:(program).run Tryd.prog w = .ok Tryd.prog w:=rfl
 simp only [callFunc,Sem.run_bind,hp,Result.andThen_ok,hf,Z4T.names f fu hf]
 cases hc:fu.body with
 | none=>rw [hc] at hb;cases hb
 | some c=>simp
set_option maxRecDepth 100000 in
theorem cloneT45:CloneT Tryd.prog 26 50 1 24 [.nils]:=⟨rfl,rfl,rfl,rfl,rfl⟩
set_option maxRecDepth 100000 in
theorem cloneT46:CloneT Tryd.prog 27 81 2 32 [.v (.int .i64 0),.nils]:=⟨rfl,rfl,rfl,rfl,rfl⟩
set_option maxRecDepth 100000 in
theorem cloneT47:CloneT Tryd.prog 50 54 2 16 [.v (.int .i64 0),.v (.int .i64 0)]:=⟨rfl,rfl,rfl,rfl,rfl⟩
theorem pvrs_one' {s:St} {x:PV} {vs:Array Value} (h:PVRs s [x] vs):∃ v,vs = #[v]/\PVR s x v:=by
 obtain ⟨hl,hx⟩:=h
 have:vs.size=1:=hl.symm
 refine ⟨vs.getD 0 Go.undef,?_,hx 0 x rfl⟩
 apply Array.ext
 ·simpa using this
 ·intro i h1 h2;have:i=0:=by simp at h2;omega
  subst this;simp [Array.getD,h1]
theorem ca_ok:CtxOK CA:=by
 refine ⟨Z4T,λf args r h s hi hG vs hv hp=>?_,λf p h=>by cases h⟩
 simp only [CA] at h
 split at h
 ·rename_i hf;subst hf;refine ⟨Z51 45 _ _ _ Tryd.func45 rfl,?_⟩;unfold Z2m at h
  split at h
  ·split at h
   ·rename_i xs hx;cases h;obtain ⟨v,rfl,hv1⟩:=pvrs_one' hv;exact Z3K (X:=C0) (b:=4) c0_ok Tryd.func45 rfl rfl rfl (λ_=>rfl) cloneT45 hi hx.1 hx.2 hv1
   ·cases h
  ·cases h
 split at h
 ·rename_i hf;subst hf;refine ⟨Z51 46 _ _ _ Tryd.func46 rfl,?_⟩;unfold Z2m at h
  split at h
  ·split at h
   ·rename_i xs hx;cases h;obtain ⟨v,rfl,hv1⟩:=pvrs_one' hv;exact Z3K (X:=C0) (b:=4) c0_ok Tryd.func46 rfl rfl rfl (λ_=>rfl) cloneT46 hi hx.1 hx.2 hv1
   ·cases h
  ·cases h
 split at h
 ·rename_i hf;subst hf;refine ⟨Z51 47 _ _ _ Tryd.func47 rfl,?_⟩;unfold Z2m at h
  split at h
  ·split at h
   ·rename_i xs hx;cases h;obtain ⟨v,rfl,hv1⟩:=pvrs_one' hv;exact Z3K (X:=C0) (b:=4) c0_ok Tryd.func47 rfl rfl rfl (λ_=>rfl) cloneT47 hi hx.1 hx.2 hv1
   ·cases h
  ·cases h
 cases h
def emptyV:List PV->Option PV
 | [.v (.sl [])]=>some (.v (.sl []))
 | _=>none
theorem empty45 (G:Heap):ZU CA 60 (.fn 45) [.v (.sl [])] G=some (.v (.sl []),G):=by kernel_rfl
theorem empty46 (G:Heap):ZU CA 60 (.fn 46) [.v (.sl [])] G=some (.v (.sl []),G):=by kernel_rfl
noncomputable def CX:Ctx:={ P:=Tryd.prog,glob:=λg=>match g with|0=>some (Z1E.map (FV.int .i64))|_=>none,intr:=λf args=>if f=45 then emptyV args else if f=46 then emptyV args else if f=47 then Z2m 2 16 args else none,opn:=λf=>f==45||f==46,keep:=λf=>false,fresh:=λf=>f==45||f==46 }
theorem cx_ok:CtxOK CX:=by
 refine ⟨Z4T,λf args r h s hi hG vs hv hp=>?_,λf p h=>by cases h⟩
 replace hG:Zg CA s:=λg c h=>by cases h
 simp only [CX] at h
 split at h
 ·rename_i hf;subst hf;unfold emptyV at h
  split at h
  ·cases h;exact Z3J ca_ok 60 (.fn 45) _ _ _ s (empty45 s.G) hi hG vs hv
  ·cases h
 split at h
 ·rename_i hf;subst hf;unfold emptyV at h
  split at h
  ·cases h;exact Z3J ca_ok 60 (.fn 46) _ _ _ s (empty46 s.G) hi hG vs hv
  ·cases h
 split at h
 ·rename_i hf;subst hf;exact ca_ok.intr 47 args r h s hi hG vs hv hp
 cases h
theorem cx_intr47 (args:List PV):CX.intr 47 args=Z2m 2 16 args:=rfl
end Go.Dn

namespace Go.Dn
open Go Go.Proofs
set_option maxRecDepth 100000
set_option maxHeartbeats 4000000
abbrev vl {α:Type} (c:α->List FV) (x:List α):PV:=.v (.sl (x.map c))
abbrev vi (x:Int):PV:=.v (.int .i64 x)
abbrev vu (x:Int):PV:=.v (.int .u64 x)
abbrev vb (x:Bool):PV:=.v (.bool x)
section
theorem Ops.wt {X:Ctx} {n:Nat} {dr:Bool} {ops:Array Oper} {base i:Nat} {l:List Oper} {e:Env} {G:Heap} {K:Env->Heap->Prop} {op:Op} {t:TypeId} {p:String} {af:Array Edge} {j:Nat} {g:Tmp} {w:Bool} {dst:Option Tmp} (hg:(ops[j]?).bind (·.dst)=some g) (he:e g = .v (.bool w)) (hk:Ops X n dr ops base i (⟨dst,op,t,p,af,none⟩::l) e G K):Ops X n dr ops base i (⟨dst,op,t,p,af,some (j,w)⟩::l) e G K:=.wanted hg he hk
variable {X:Ctx} {n:Nat} {dr:Bool} {ops:Array Oper} {base i:Nat} {l:List Oper} {e:Env} {G:Heap} {K:Env->Heap->Prop} {d:Nat} {t t1 t2:TypeId} {p:String} {af:Array Edge} {x y:Operand} {lo hi:Nat} {L:List Res}
theorem Ops.mv (v:PV) (hx:Z0 X e x=some v) (hd:Nat.blt d n=true) (hk:Ops X n dr ops base (i+1) l (set e d v) G K):Ops X n dr ops base i (⟨some d,.move x,t,p,af,none⟩::l) e G K:=.move hx hd hk
theorem Ops.av (v:PV) (hx:Z0 X e x=some v) (hd:Nat.blt d n=true) (hk:Ops X n dr ops base (i+1) l (set e d v) G K):Ops X n dr ops base i (⟨some d,.assign x,t,p,af,none⟩::l) e G K:=.assign hx hd hk
theorem Ops.it {op:BinOp} {k:IntKind} (m m':Int) (r:FV) (hx:Z0 X e x=some (.v (.int k m))) (hy:Z0 X e y=some (.v (.int k m'))) (hop:(op != .shl&&op != .shr)=true) (hr:Z3O op k m m'=some r) (hd:Nat.blt d n=true) (hk:Ops X n dr ops base (i+1) l (set e d (.v r)) G K):Ops X n dr ops base i (⟨some d,.binOp op t1 x y t2,t,p,af,none⟩::l) e G K:=.int hx hy hop hr hd hk
theorem Ops.xt (v:PV) {vs:List PV} {j:Nat} (hx:Z0 X e x=some (.tup vs)) (hj:vs[j]? = some v) (hd:Nat.blt d n=true) (hk:Ops X n dr ops base (i+1) l (set e d v) G K):Ops X n dr ops base i (⟨some d,.extract x j,t,p,af,none⟩::l) e G K:=.extract hx hj hd hk
theorem Ops.ld (v:PV) {id ver off:Nat} {te:TypeId} {cells:List PV} (H:Has G lo hi L) (k:Nat) (hk:L[k]? = some (.blk id te cells)) (hv:cells.length=ver) (hx:Z0 X e x=some (.ptr id ver off)) (hg:tagg X.P t1=some false) (hc:cells[off]? = some v) (ha:dr=true->Seen ops base i id false) (hd:Nat.blt d n=true) (hk':Ops X n dr ops base (i+1) l (set e d v) G K):Ops X n dr ops base i (⟨some d,.load t1 x,t,p,af,none⟩::l) e G K:=.Z27 H k hk hv hx hg hc ha hd hk'
end
theorem sk {α:Type} {a b:α} (h:some a=some b):b=a:=(Option.some.inj h).symm
theorem V {α:Sort _} {a:α}:a=a:=rfl
theorem U:True:=trivial
theorem Has.wk {G:Heap} {lo hi:Nat} {L:List Res} (H:Has G lo hi L) {lo':Nat} (h:lo<=lo'):Has G lo' hi L:=H.weak h (YG _)
theorem sj {α:Type} {a b:α} (h:some a=some b):a=b:=Option.some.inj h
abbrev vF (f:Form):List PV:=[vi f.Period,vi f.Count,vl (cL Span.cs) f.Core,vl Granule.cs f.Odd]
theorem Z3P {r:(List ByteArray)} (h:Z8=r):Fn CX 8 [] (vl cS r):=by
 refine Fn.go Tryd.func8 V λG H=>?_;unfold Z8 at h;refine .tR 1 V H λb1 G H=>(.a1 .nils V V (.na H λH=>(.tR 2 V H λb2 G H=>(.Z3H (sz:=1) ([(ByteArray.mk #[116,105,99,107]),(ByteArray.mk #[100,97,121]),(ByteArray.mk #[119,101,101,107]),(ByteArray.mk #[109,111,110,116,104]),(ByteArray.mk #[113,117,97,114,116,101,114]),(ByteArray.mk #[121,101,97,114])].map cS) H (by omega) (by omega) V V V V V V V V V λG H=>(.aB V (.na H λH=>(.ret ?_)))))));subst h;exact (Ends.H (xs:=[(.buf (b2+0) 6 1)]) (.inr V) H (.tmp (v:=(.buf (b2+0) 6 1)) V .nil) (.one (.c (.s 0 V))))
theorem Z46 {from':Int} {to':Int} {r:Form} (h:ZE from' to'=r):Fn CX 42 [(vi from'),(vi to')] (.agg (vs (Form.cs r))):=by
 refine Fn.go Tryd.func42 V λG H=>?_;unfold ZE at h;refine .tR 1 V H λb1 G H=>(.alc (cs:=[(vi 0),(vi 0),.nils,.nils]) H V V λG H=>(.na H λH=>(.tR 11 V H λb2 G H=>(.mV V (.mV V (.iV V (.iV V (.mV V ?_))))))));refine .mV V (.bV [(vi from'),(vi to')] V (.Z3H (sz:=2) ([(Span.mk from' to')].map Span.cs) H (by omega) (by omega) V V V V V V V V V λG H=>(.buildSF (sz:=1) ([[(Span.mk from' to')]].map (cL Span.cs)) H (by omega) (by omega) V V (.exp (.c (.s 0 V)) .nil) V V V V V V V nofun λG H=>(.bV [(vi (w64 ((w64 (to'-from'))+1))),(vi 1),(.buf (b2+8) 1 1),.nils] V (.sV [(vi (w64 ((w64 (to'-from'))+1))),(vi 1),(.buf (b2+8) 1 1),.nils] H 2 V λG H=>(.na H λH=>(.ret ?_)))))));subst h;exact (Ends.H (xs:=[(.agg [(vi (w64 ((w64 (to'-from'))+1))),(vi 1),(.buf (b2+8) 1 1),.nils])]) (.inr V) H (.agg (cs:=[(vi (w64 ((w64 (to'-from'))+1))),(vi 1),(.buf (b2+8) 1 1),.nils]) 2 V V V V V V V .nil) (.one (.a (.cons (.v _) (.cons (.v _) (.cons (.s 0 V) (.cons .n .nil)))))))
theorem civil_Leap_fn {year:Int} {r:Bool} (h:Z1U year=r):Fn CX 67 [(vi year)] (vb r):=by
 refine Fn.go Tryd.func67 V λG H=>?_;unfold Z1U at h;refine .tR 1 V H λb1 G H=>(.aV V (.na H λH=>(.tR 14 V H λb2 G H=>(.mV V (.iV V (.iV V (.mV V ?_)))))));refine .md H 9 [(15,(vb (((iAnd .i64 year 3)==0)&&(((year.tmod 25) != 0)||((iAnd .i64 year 15)==0)))))] [] rfl ?_ λe G H=>?_
 ·refine .split V V ?_ ?_<;>intro hc1
  ·refine .mV V (.wt V V (.rem (m:=year) (m':=25) V V (by decide) V (.iV V (.mV V ?_))));refine .md H 4 [(14,(vb (((year.tmod 25) != 0)||((iAnd .i64 year 15)==0)))),(6,(vb true))] [] rfl ?_ λe G H=>?_
   ·refine .split V V ?_ ?_<;>intro hc2
    ·refine .ps 3 V (.kT V (.nil ?_));exact ⟨⟨or_T hc2,V,U⟩,H.wk (by omega)⟩
    ·refine .mV V (.iV V (.iV V (.kF V (.nil ?_))));exact ⟨⟨or_F hc2,V,U⟩,H.wk (by omega)⟩
   refine .kT V (.nil ?_);exact ⟨⟨Z3W hc1,U⟩,H.wk (by omega)⟩
  ·refine .ps 8 V (.kF V (.nil ?_));exact ⟨⟨Z3I hc1,U⟩,H.wk (by omega)⟩
 refine .aV V (.na H λH=>(.ret ?_));subst h;exact Ends.eR V
theorem civil_more_fn {year:Int} {months:Int} {r:Int} (h:Z22 year months=r):Fn CX 50 [(vi year),(vi months)] (vi r):=by
 refine Fn.go Tryd.func50 V λG H=>?_;unfold Z22 at h;refine .tR 1 V H λb1 G H=>(.aV V (.na H λH=>(.then (.tR 6 V H λb2 G H=>(.mV V (.iV V (.mV V ?_)))))));refine .md H 3 [(10,(vb ((decide (months>=2))&&(Z1U year))))] [] V ?_ λe G H=>?_
 ·refine .split V V ?_ ?_<;>intro hc1
  ·refine .mV V (.cV (civil_Leap_fn V) V (.kT V (.nil ?_)));exact ⟨⟨Z3W hc1,U⟩,H.wk (by omega)⟩
  ·refine .ps 2 V (.kF V (.nil ?_));exact ⟨⟨Z3I hc1,U⟩,H.wk (by omega)⟩
 refine .na H λH=>?_;refine .wh h V ?_ ?_<;>intro h
 ·refine .tR 1 V H λb3 G H=>(.aV V (.na H λH=>(.ret ?_)));subst h;exact Ends.eR V
 refine .skip (.tR 1 V H λb4 G H=>(.aV V (.na H λH=>(.ret ?_))));subst h;exact Ends.eR V
theorem Z2M {year:Int} {months:Int} {r:Int} (h:Z0y year months=some r):Fn CX 31 [(vi year),(vi months)] (vi r):=by
 refine Fn.go Tryd.func31 V λG H=>?_;unfold Z0y at h;refine .tR 1 V H λb1 G H=>(.aV V (.na H λH=>(.then (.Z0v 8 V (by kernel_rfl) H λb2 G H B2=>(.mV V ?_)))));obtain ⟨x1,q1,h⟩:=bs h;refine .indexG (u:=x1) V V q1 V V V V λtl1=>(.pV V (.mV V (.mV V (.cV (civil_more_fn V) V (.iV V (.aV V (.na H λH=>(.ret ?_))))))));obtain rfl:=sj h;exact Ends.eR V
theorem Z5r {year:Int} {month:Int} {r:Int} (h:Z0p year month=some r):Fn CX 29 [(vi year),(vi month)] (vi r):=by
 refine Fn.go Tryd.func29 V λG H=>?_;unfold Z0p at h;refine .tR 1 V H λb1 G H=>(.aV V (.na H λH=>(.then (.tR 6 V H λb2 G H=>(.mV V (.iV V (.mV V ?_)))))));refine .md H 3 [(10,(vb ((decide (month<1))||(decide (month>12))))),(0,(vi year)),(1,(vi month))] [] rfl ?_ λe G H=>?_
 ·refine .split V V ?_ ?_<;>intro hc1
  ·refine .ps 2 V (.kT V (.nil ?_));exact ⟨⟨or_T hc1,V,V,U⟩,H.wk (by omega)⟩
  ·refine .mV V (.iV V (.kF V (.nil ?_)));exact ⟨⟨or_F hc1,V,V,U⟩,H.wk (by omega)⟩
 refine .na H λH=>?_;refine .wh h V ?_ ?_<;>intro h
 ·refine .tR 1 V H λb3 G H=>(.aV V (.na H λH=>(.ret ?_)));obtain rfl:=sj h;exact Ends.eR V
 refine .skip (.tR 9 V H λb4 G H=>(.mV V (.mV V ?_)));obtain ⟨x1,q1,h⟩:=bs h;refine .cV (Z2M q1) V (.mV V (.mV V (.iV V ?_)));obtain ⟨x2,q2,h⟩:=bs h;refine .cV (Z2M q2) V (.iV V (.aV V (.na H λH=>(.ret ?_))));obtain rfl:=sj h;exact Ends.eR V
theorem Z1A {n:Int} {by':Int} {r:Int×Int} (h:Z0U n by'=some r):Fn CX 35 [(vi n),(vi by')] (.tup [(vi r.1),(vi r.2)]):=by
 refine Fn.go Tryd.func35 V λG H=>?_;unfold Z0U at h;refine .tR 2 V H λb1 G H=>(.aV V (.aV V (.na H λH=>(.then (.Z0v 8 V (by kernel_rfl) H λb2 G H B2=>(.mV V (.mV V ?_)))))));obtain ⟨u1,q1,h⟩:=bs h;refine .quo (m:=n) (m':=by') V V (nz_ne q1) V (.mV V (.mV V ?_));obtain ⟨u2,q2,h⟩:=bs h;refine .rem (m:=n) (m':=by') V V (nz_ne q2) V (.aV V (.aV V (.na H λH=>(.then ?_))));refine .jn h .normal (λy1=>[(6,(vi y1.1)),(7,(vi y1.2))]) (λy1=>[]) (λy1 h=>?_) λy1 e G H h=>?_
 ·refine .tR 2 V H λb3 G H=>(.mV V (.iV V (.na H λH=>?_)));refine .wh h V ?_ ?_<;>intro h
  ·refine .Za 7 V H λb4 G H=>(.mV V (.iV V (.mV V (.mV V (.iV V (.aV V (.aV V (.na H λH=>?_))))))));obtain rfl:=sj h;exact ⟨V,EI V,H⟩
  refine .skip ?_;obtain rfl:=sj h;exact ⟨V,EI V,H⟩
 refine .tR 4 V H λb5 G H=>(.mV V (.mV V (.aV V (.aV V (.na H λH=>(.ret ?_))))));obtain rfl:=sj h;exact Ends.eR V
theorem Z5t {year:Int} {r:Int} (h:Z16 year=some r):Fn CX 30 [(vi year)] (vi r):=by
 refine Fn.go Tryd.func30 V λG H=>?_;unfold Z16 at h;refine .tR 1 V H λb1 G H=>(.aV V (.na H λH=>(.tR 3 V H λb2 G H=>(.mV V (.iV V (.aV V (.na H λH=>(.tR 7 V H λb3 G H=>?_))))))));refine .mV V ?_;obtain ⟨x1,q1,h⟩:=bs h;refine .cV (Z1A q1) V (.m1 (.tup [(vi x1.1),(vi x1.2)]) V V (.xV V (.xV V (.aV V (.aV V (.na H λH=>(.tR 7 V H λb4 G H=>(.mV V ?_))))))));obtain ⟨x2,q2,h⟩:=bs h;refine .cV (Z1A q2) V (.m1 (.tup [(vi x2.1),(vi x2.2)]) V V (.xV V (.xV V (.aV V (.aV V (.na H λH=>(.tR 7 V H λb5 G H=>(.mV V ?_))))))));obtain ⟨x3,q3,h⟩:=bs h;refine .cV (Z1A q3) V (.m1 (.tup [(vi x3.1),(vi x3.2)]) V V (.xV V (.xV V (.aV V (.aV V (.na H λH=>(.tR 10 V H λb6 G H=>(.mV V ?_))))))));refine .iV V (.mV V (.iV V (.mV V (.iV V (.mV V (.iV V (.iV V (.aV V ?_))))))));refine .na H λH=>(.ret ?_);obtain rfl:=sj h;exact Ends.eR V
theorem Z3s {year:Int} {month:Int} {day:Int} {r:Int×Int} (h:Z03 year month day=some r):Fn CX 15 [(vi year),(vi month),(vi day)] (.tup [(vi r.1),(vi r.2)]):=by
 refine Fn.go Tryd.func15 V λG H=>?_;unfold Z03 at h;refine .tR 2 V H λb1 G H=>(.aV V (.aV V (.na H λH=>(.then (.tR 17 V H λb2 G H=>(.mV V (.iV V (.mV V ?_))))))));refine .md H 3 [(13,(vb ((decide (year<(-9999)))||(decide (year>9999))))),(0,(vi year)),(1,(vi month)),(2,(vi day))] [] rfl ?_ λe G H=>?_
 ·refine .split V V ?_ ?_<;>intro hc1
  ·refine .ps 2 V (.kT V (.nil ?_));exact ⟨⟨or_T hc1,V,V,V,U⟩,H.wk (by omega)⟩
  ·refine .mV V (.iV V (.kF V (.nil ?_)));exact ⟨⟨or_F hc1,V,V,V,U⟩,H.wk (by omega)⟩
 refine .mV V ?_;refine .md H 3 [(17,(vb (((decide (year<(-9999)))||(decide (year>9999)))||(decide (day<1))))),(0,(vi year)),(1,(vi month)),(2,(vi day))] [] rfl ?_ λe G H=>?_
 ·refine .split V V ?_ ?_<;>intro hc2
  ·refine .ps 2 V (.kT V (.nil ?_));exact ⟨⟨or_T hc2,V,V,V,U⟩,H.wk (by omega)⟩
  ·refine .mV V (.iV V (.kF V (.nil ?_)));exact ⟨⟨or_F hc2,V,V,V,U⟩,H.wk (by omega)⟩
 refine .mV V ?_;obtain ⟨y1,hj1,h⟩:=bs h;refine .md H 6 [(24,(vb y1)),(0,(vi year)),(1,(vi month)),(2,(vi day))] [] V ?_ λe G H=>?_
 ·refine .sp hj1 V ?_ ?_<;>intro h
  ·refine .ps 5 V (.kT V (.nil ?_));obtain rfl:=sj h;exact ⟨EI V,H.wk (by omega)⟩
  refine .mV V (.mV V (.mV V (.wt V V ?_)));obtain ⟨x1,q1,h⟩:=bs h;refine .cV (Z5r q1) V (.iV V (.kF V (.nil ?_)));obtain rfl:=sj h;exact ⟨EI V,H.wk (by omega)⟩
 refine .na H λH=>?_;refine .wh h V ?_ ?_<;>intro h
 ·refine .tR 2 V H λb3 G H=>(.aV V (.aV V (.na H λH=>(.ret ?_))));obtain rfl:=sj h;exact Ends.eR V
 refine .skip (.tR 12 V H λb4 G H=>(.mV V ?_));obtain ⟨x2,q2,h⟩:=bs h;refine .cV (Z5t q2) V (.mV V (.mV V (.iV V ?_)));obtain ⟨x3,q3,h⟩:=bs h;refine .cV (Z2M q3) V (.mV V (.iV V (.iV V (.iV V (.aV V (.aV V (.na H λH=>(.ret ?_))))))));obtain rfl:=sj h;exact Ends.eR V
theorem Z39 {month:Int} {r:Int} (h:Z0q month=some r):Fn CX 64 [(vi month)] (vi r):=by
 refine Fn.go Tryd.func64 V λG H=>?_;unfold Z0q at h;refine .tR 1 V H λb1 G H=>(.aV V (.na H λH=>(.then (.tR 2 V H λb2 G H=>(.mV V (.iV V (.na H λH=>?_)))))));refine .wh h V ?_ ?_<;>intro h
 ·refine .tR 1 V H λb3 G H=>(.aV V (.na H λH=>(.ret ?_)));obtain rfl:=sj h;exact Ends.eR V
 refine .skip (.tR 12 V H λb4 G H=>(.mV V (.quo (m:=month) (m':=12) V V (by decide) V (.iV V (.mV V (.rem (m:=month) (m':=12) V V (by decide) V (.iV V ?_)))))));obtain ⟨x1,q1,h⟩:=bs h;refine .cV (Z3s q1) V (.m1 (.tup [(vi x1.1),(vi x1.2)]) V V (.xV V (.xV V (.aV V (.aV V (.na H λH=>(.tR 2 V H λb5 G H=>(.mV V ?_))))))));refine .aV V (.na H λH=>(.ret ?_));obtain rfl:=sj h;exact Ends.eR V
theorem Z1n {n:Int} {r:Form} (h:ZX n=some r):Fn CX 43 [(vi n)] (.agg (vs (Form.cs r))):=by
 refine Fn.go Tryd.func43 V λG H=>?_;unfold ZX at h;refine .tR 1 V H λb1 G H=>(.alc (cs:=[(vi 0),(vi 0),.nils,.nils]) H V V λG H=>(.na H λH=>(.tR 5 V H λb2 G H=>(.mV V ?_))));obtain ⟨u1,q1,h⟩:=bs h;refine .quo (m:=4800) (m':=n) V V (nz_ne q1) V (.bV [(vi 146097),(vi (w64 ((4800:Int).tdiv n))),.nils,.nils] V (.alc (cs:=[(vi 0),(vi 0),.nils,.nils]) H V V λG H=>(.sV [(vi 146097),(vi (w64 ((4800:Int).tdiv n))),.nils,.nils] H 0 V λG H=>(.na H λH=>(.then (.tR 3 V H λb3 G H=>(.fV H 0 V (.lV H 0 V ?_))))))));refine .mV V (.na H λH=>(.inBlock ?_));replace H:=H.pushNil 50 1 true;obtain ⟨y1,hj1,h⟩:=bs h;obtain ⟨n1,hj1⟩:=Zu.1 hj1;refine .mono (Runs.loopO hj1 (λs2 e G=>∃ (w3:PV),Zd e [(0,(vi n)),(2,(.ptr (b1+0) 4 0)),(3,(.ptr (b2+3) 4 0)),(9,(vi (w64 ((4800:Int).tdiv n)))),(10,(vi s2.1))]/\Hs G [.sl w3 50 1 (s2.2.map (cL Span.cs)) true,.blk (b2+3) 29 [(vi 146097),(vi (w64 ((4800:Int).tdiv n))),w3,.nils],.blk (b1+0) 29 [(vi 0),(vi 0),.nils,.nils]]) (λy1 x e G=>∃ (w4:PV),x = .exit 0/\Zd e [(2,(.ptr (b1+0) 4 0)),(3,(.ptr (b2+3) 4 0))]/\Hs G [.sl w4 50 1 (y1.1.map (cL Span.cs)) true,.blk (b2+3) 29 [(vi 146097),(vi y1.2),w4,.nils],.blk (b1+0) 29 [(vi 0),(vi 0),.nils,.nils]]) ⟨.nils,EI V,H⟩ ?_) ?_
 ·intro s2 e G hI z h;obtain ⟨w3,he,H⟩:=hI;obtain ⟨e,rfl⟩:=he.ex;unfold ZX.s0 at h;refine .tR 1 V H λb4 G H=>(.iV V (.na H λH=>(.then ?_)));refine .wh h V ?_ ?_<;>intro h
  ·refine .skip (.then (.inBlock (.tR 2 V H λb5 G H=>(.mV V (.aV V (.na H λH=>(.Z0v 19 V (by kernel_rfl) H λb6 G H B6=>(.ZA H 1 V V V V V (so (B6 1 _ V _ V)) V ?_))))))));refine .ld w3 H 1 V V V V V (so (B6 1 _ V _ V)) V (.mV V (.mV V (.iV V ?_)));obtain ⟨x1,q2,h⟩:=bs h;refine .cV (Z39 q2) V (.mV V (.mV V (.iV V (.mV V (.iV V ?_)))));obtain ⟨x2,q3,h⟩:=bs h;refine .cV (Z39 q3) V (.iV V (.bV [(vi x1),(vi (w64 (x2-1)))] V (.Z3H (sz:=2) ([(Span.mk x1 (w64 (x2-1)))].map Span.cs) H (by omega) (by omega) V V V V V V V V V λG H=>(.buildSF (sz:=1) ([[(Span.mk x1 (w64 (x2-1)))]].map (cL Span.cs)) H (by omega) (by omega) V V (.exp (.c (.s 0 V)) .nil) V V V V V V V (λ_=>.inr ⟨[14],V,by kernel_rfl⟩) λG H=>?_))));obtain ⟨x3,q4,h⟩:=bs h;refine .appendSt (c:=(cL Span.cs)) (v:=w3) (w:=(.buf (b6+15) 1 1)) (xs:=s2.2) (ys:=[[(Span.mk x1 (w64 (x2-1)))]]) H (by omega) (by omega) 2 V V V (.s 0 V) q4 V V V V V (λh=>⟨(λid ho=>.inl ⟨B6 0 _ V id ho,(λ_=>by kernel_rfl),nofun⟩),(λid ho=>.inr ⟨15,(by cases ho;rfl),(λh=>nomatch h),by kernel_rfl,by decide⟩)⟩) V λw5 G H=>(.ZA H 3 V V V V V (so (B6 1 _ V _ V)) V (.Z1y (v:=w5) (ys:=[w5]) (cells':=[(vi 146097),(vi (w64 ((4800:Int).tdiv n))),w5,.nils]) H 3 V V V V (H.slCells (k:=2) V) V V V V (λ_=>.inl ⟨B6 1 _ V _ V,(Z32 (by kernel_rfl))⟩) λG H=>(.na H λH=>(.Za 2 V H λb7 G H=>(.iV V (.mV V (.na H λH=>?_)))))))
   obtain rfl:=sj h;exact ⟨V,w5,EI V,((H.erase 1).erase 0)⟩
  refine .exit ?_;obtain rfl:=sj h;exact ⟨nofun,⟨w3,V,EI V,H⟩⟩
 ·rintro x e G ⟨w6,rfl,he,H⟩;obtain ⟨e,rfl⟩:=he.ex;refine .tR 2 V H λb8 G H=>(.LV [(vi 146097),(vi y1.2),w6,.nils] H 1 V (.sV [(vi 146097),(vi y1.2),w6,.nils] H 2 V λG H=>(.na H λH=>(.ret ?_))));obtain rfl:=sj h;exact (Ends.H (xs:=[(.agg [(vi 146097),(vi y1.2),w6,.nils])]) (.inr V) H (.agg (cs:=[(vi 146097),(vi y1.2),w6,.nils]) 2 V V V V V V V .nil) (.one (.a (.cons (.v _) (.cons (.v _) (.cons (.s 0 V) (.cons .n .nil)))))))
theorem basis_made_fn {at':Int} {r:Form} (h:Z0n at'=some r):Fn CX 22 [(vi at')] (.agg (vs (Form.cs r))):=by
 refine Fn.go Tryd.func22 V λG H=>?_;unfold Z0n at h;refine .tR 1 V H λb1 G H=>(.alc (cs:=[(vi 0),(vi 0),.nils,.nils]) H V V λG H=>(.na H λH=>(.then ?_)));obtain ⟨y1,hj1,h⟩:=bs h;refine .mono (Q:=λx e G=>(∃ a1,y1=(.go a1)/\x = .normal/\Zd e [(2,(.ptr (b1+0) 4 0))]/\Hs G [.blk (b1+0) 29 [(vi 0),(vi 0),.nils,.nils]])\/(∃ r',y1=(.ret r')/\x = .ret/\Ends CX Tryd.f22.results.toList (.agg (vs (Form.cs r'))) x e G)) ?_ ?_
 ·replace h:=hj1;refine .tR 1 V H λb2 G H=>(.mV V (.na H λH=>(.inBlock ?_)));obtain ⟨y2,hj2,h⟩:=bs h;refine .mono (Q:=λx e G=>(∃ a2,y2=(.go a2)/\x = .normal/\Zd e [(2,(.ptr (b1+0) 4 0))]/\Hs G [.blk (b1+0) 29 [(vi 0),(vi 0),.nils,.nils]])\/(∃ r',y2=(.ret r')/\x = .ret/\Ends CX Tryd.f22.results.toList (.agg (vs (Form.cs r'))) x e G)) ?_ ?_
  ·replace h:=hj2;refine .then ?_;refine .jn h .normal (λy3=>[(2,(.ptr (b1+0) 4 0)),(3,(vi at')),(4,(vb y3))]) (λy3=>[.blk (b1+0) 29 [(vi 0),(vi 0),.nils,.nils]]) (λy3 h=>?_) λy3 e G H h=>?_
   ·refine .tR 2 V H λb3 G H=>(.iV V (.aV V (.na H λH=>?_)));refine .wh h V ?_ ?_<;>intro h
    ·refine .skip ?_;obtain rfl:=sj h;exact ⟨V,EI V,H⟩
    refine .Za 2 V H λb4 G H=>(.iV V (.aV V (.na H λH=>?_)));obtain rfl:=sj h;exact ⟨V,EI V,H⟩
   refine .wh h V ?_ ?_<;>intro h
   ·refine .tR 2 V H λb5 G H=>(.cV (Z46 V) V (.sV [(vi (ZE 0 0).Period),(vi (ZE 0 0).Count),(vl (cL Span.cs) (ZE 0 0).Core),(vl Granule.cs (ZE 0 0).Odd)] H 0 V λG H=>(.na H λH=>(.ret ?_))));obtain rfl:=sj h;exact (.inr ⟨_,V,V,(Ends.H (xs:=[(.agg [(vi (ZE 0 0).Period),(vi (ZE 0 0).Count),(vl (cL Span.cs) (ZE 0 0).Core),(vl Granule.cs (ZE 0 0).Odd)])]) (.inr V) H (.agg (cs:=[(vi (ZE 0 0).Period),(vi (ZE 0 0).Count),(vl (cL Span.cs) (ZE 0 0).Core),(vl Granule.cs (ZE 0 0).Odd)]) 0 V V V V V V V .nil) (.one (.p V)))⟩)
   refine .tR 2 V H λb6 G H=>(.iV V (.aV V (.na H λH=>?_)));refine .wh h V ?_ ?_<;>intro h
   ·refine .tR 2 V H λb7 G H=>(.cV (Z46 V) V (.sV [(vi (ZE (-3) 3).Period),(vi (ZE (-3) 3).Count),(vl (cL Span.cs) (ZE (-3) 3).Core),(vl Granule.cs (ZE (-3) 3).Odd)] H 0 V λG H=>(.na H λH=>(.ret ?_))));obtain rfl:=sj h;exact (.inr ⟨_,V,V,(Ends.H (xs:=[(.agg [(vi (ZE (-3) 3).Period),(vi (ZE (-3) 3).Count),(vl (cL Span.cs) (ZE (-3) 3).Core),(vl Granule.cs (ZE (-3) 3).Odd)])]) (.inr V) H (.agg (cs:=[(vi (ZE (-3) 3).Period),(vi (ZE (-3) 3).Count),(vl (cL Span.cs) (ZE (-3) 3).Core),(vl Granule.cs (ZE (-3) 3).Odd)]) 0 V V V V V V V .nil) (.one (.p V)))⟩)
   refine .tR 2 V H λb8 G H=>(.iV V (.aV V (.na H λH=>?_)));refine .wh h V ?_ ?_<;>intro h
   ·refine .tR 2 V H λb9 G H=>?_;obtain ⟨x1,q1,h⟩:=bs h;refine .cV (Z1n q1) V (.sV (vF x1) H 0 V λG H=>(.na H λH=>(.ret ?_)));obtain rfl:=sj h;exact (.inr ⟨_,V,V,(Ends.H (xs:=[(.agg (vF x1))]) (.inr V) H (.agg (cs:=(vF x1)) 0 V V V V V V V .nil) (.one (.p V)))⟩)
   refine .tR 2 V H λb10 G H=>(.iV V (.aV V (.na H λH=>?_)));refine .wh h V ?_ ?_<;>intro h
   ·refine .tR 2 V H λb11 G H=>?_;obtain ⟨x2,q2,h⟩:=bs h;refine .cV (Z1n q2) V (.sV (vF x2) H 0 V λG H=>(.na H λH=>(.ret ?_)));obtain rfl:=sj h;exact (.inr ⟨_,V,V,(Ends.H (xs:=[(.agg (vF x2))]) (.inr V) H (.agg (cs:=(vF x2)) 0 V V V V V V V .nil) (.one (.p V)))⟩)
   refine .skip ?_;obtain rfl:=sj h;exact (.inl ⟨_,V,V,EI V,H⟩)
  ·rintro x e G (⟨a3,rfl,rfl,he,H⟩|⟨r',rfl,rfl,hE⟩)
   ·replace h:=jgo h;obtain ⟨e,rfl⟩:=he.ex;obtain rfl:=sj h;exact (.inl ⟨_,V,V,EI V,H⟩)
   ·replace h:=jret h;obtain rfl:=sj h;exact (.inr ⟨_,V,V,hE⟩)
 ·rintro x e G (⟨a4,rfl,rfl,he,H⟩|⟨r',rfl,rfl,hE⟩)
  ·replace h:=jgo h;obtain ⟨e,rfl⟩:=he.ex;refine .tR 2 V H λb12 G H=>?_;obtain ⟨x3,q3,h⟩:=bs h;refine .cV (Z1n q3) V (.sV (vF x3) H 0 V λG H=>(.na H λH=>(.ret ?_)));obtain rfl:=sj h;exact (Ends.H (xs:=[(.agg (vF x3))]) (.inr V) H (.agg (cs:=(vF x3)) 0 V V V V V V V .nil) (.one (.p V)))
  ·replace h:=jret h;obtain rfl:=sj h;exact hE
theorem Z1X {s:(List ByteArray)} {v:ByteArray} {r:Int} (h:Z4 s v=some r):Fn CX 19 [(vl cS s),(.v (.str v))] (vi r):=by
 refine Fn.go Tryd.func19 V λG H=>?_;unfold Z4 at h;refine .tR 1 V H λb1 G H=>(.aV V (.na H λH=>(.then (.tR 3 V H λb2 G H=>(.mV V (.nV V (.mV V (.na H λH=>?_))))))));refine .inBlock ?_;obtain ⟨y1,hj1,h⟩:=bs h;obtain ⟨n1,hj1⟩:=Zu.1 hj1;refine .mono (Runs.loopO hj1 (λs1 e G=>Zd e [(0,(vl cS s)),(1,(.v (.str v))),(7,(vi (s.length:Int))),(8,(vi s1))]/\Hs G []) (λy1 x e G=>(∃ a1,y1=(.go a1)/\x = .exit 0/\Zd e []/\Hs G [])\/(∃ r',y1=(.ret r')/\x = .ret/\Ends CX Tryd.f19.results.toList (vi r') x e G)) ⟨EI V,H⟩ ?_) ?_
 ·intro s1 e G hI z h;obtain ⟨he,H⟩:=hI;obtain ⟨e,rfl⟩:=he.ex;unfold Z4.s0 at h;refine .tR 1 V H λb3 G H=>(.iV V (.na H λH=>(.then ?_)));refine .wh h V ?_ ?_<;>intro h
  ·refine .skip (.then (.inBlock (.tR 2 V H λb4 G H=>(.mV V (.aV V (.na H λH=>(.tR 6 V H λb5 G H=>(.mV V ?_))))))));refine .mV V (.mV V ?_);obtain ⟨x1,q1,h⟩:=bs h;refine .jV q1 V (.pV V (.binA (u:=(.v (.str v))) (w:=(.v (.str x1))) (r:=.bool (v.toList==x1.toList)) V V V (λ_=>Z4g V V) V (.na H λH=>?_)));refine .wh h V ?_ ?_<;>intro h
   ·refine .tR 2 V H λb6 G H=>(.mV V (.aV V (.na H λH=>(.ret ?_))));obtain rfl:=sj h;exact ⟨nofun,(.inr ⟨_,V,V,(Ends.H (xs:=[(vi s1)]) (.inr V) H (.tmp (v:=(vi s1)) V .nil) (.one (.c (.v _))))⟩)⟩
   refine .skip (.Za 2 V H λb7 G H=>(.iV V (.mV V (.na H λH=>?_))));obtain rfl:=sj h;exact ⟨V,EI V,H⟩
  refine .exit ?_;obtain rfl:=sj h;exact ⟨nofun,(.inl ⟨_,V,V,U,H⟩)⟩
 ·rintro x e G (⟨a2,rfl,rfl,he,H⟩|⟨r',rfl,rfl,hE⟩)
  ·replace h:=jgo h;obtain ⟨e,rfl⟩:=he.ex;refine .tR 1 V H λb8 G H=>(.aV V (.na H λH=>(.ret ?_)));obtain rfl:=sj h;exact Ends.eR V
  ·replace h:=jret h;obtain rfl:=sj h;exact hE
end Go.Dn

namespace Go.Dn
open Go Go.Proofs
set_option maxRecDepth 100000
set_option maxHeartbeats 4000000
theorem Z4S {f:Form} {i:Int} {r:Span} (h:ZD f i=some r):Fn CX 28 [(.agg (vs (Form.cs f))),(vi i)] (.agg (vs (Span.cs r))):=by
 refine Fn.go Tryd.func28 V λG H=>?_;unfold ZD at h;refine .tR 2 V H λb1 G H=>(.bxc (cs:=(vF f)) H V V V λG H=>(.alc (cs:=[(vi 0),(vi 0)]) H V V λG H=>(.na H λH=>(.then (.tR 14 V H λb2 G H=>(.mV V (.fV H 1 V (.lV H 1 V ?_))))))));refine .nV V (.iV V (.mV V ?_));obtain ⟨y1,hj1,h⟩:=bs h;refine .md H 8 [(18,(vb y1)),(1,(vi i)),(2,(.ptr (b1+0) 4 0)),(4,(.ptr (b1+1) 2 0))] [.blk (b1+1) 54 [(vi 0),(vi 0)],.blk (b1+0) 29 (vF f)] V ?_ λe G H=>?_
 ·refine .sp hj1 V ?_ ?_<;>intro h
  ·refine .ps 7 V (.kT V (.nil ?_));obtain rfl:=sj h;exact ⟨EI V,H.wk (by omega)⟩
  refine .fV H 1 V (.lV H 1 V (.mV V (.wt V V ?_)));obtain ⟨x1,q1,h⟩:=bs h;refine .jV q1 V (.pV V (.nV V (.iV V (.kF V (.nil ?_)))));obtain rfl:=sj h;exact ⟨EI V,H.wk (by omega)⟩
 refine .na H λH=>?_;refine .wh h V ?_ ?_<;>intro h
 ·refine .tR 2 V H λb3 G H=>(.bV [(vi 0),(vi 0)] V (.sV [(vi 0),(vi 0)] H 0 V λG H=>(.na H λH=>(.ret ?_))));obtain rfl:=sj h;exact (Ends.H (xs:=[(.agg [(vi 0),(vi 0)])]) (.inr V) H (.agg (cs:=[(vi 0),(vi 0)]) 0 V V V V V V V .nil) (.one (.p V)))
 refine .skip (.tR 8 V H λb4 G H=>(.fV H 1 V (.lV H 1 V (.mV V ?_))));obtain ⟨x2,q2,h⟩:=bs h;refine .jV q2 V (.pV V ?_);obtain ⟨x3,q3,h⟩:=bs h;refine .jV q3 V (.qV [(.int .i64 x3.From),(.int .i64 x3.To)] V (.sV [(vi x3.From),(vi x3.To)] H 0 V λG H=>(.na H λH=>(.ret ?_))));obtain rfl:=sj h;exact (Ends.H (xs:=[(.agg [(vi x3.From),(vi x3.To)])]) (.inr V) H (.agg (cs:=[(vi x3.From),(vi x3.To)]) 0 V V V V V V V .nil) (.one (.p V)))
theorem Z3w {t:Int} {r:Bool} (h:Z0X t=r):Fn CX 55 [(vi t)] (vb r):=by
 refine Fn.go Tryd.func55 V λG H=>?_;unfold Z0X at h;refine .tR 1 V H λb1 G H=>(.aV V (.na H λH=>(.tR 7 V H λb2 G H=>(.mV V (.iV V (.mV V ?_))))));refine .md H 3 [(8,(vb ((decide (t>=(-1099511627776)))&&(decide (t<=1099511627776)))))] [] V ?_ λe G H=>?_
 ·refine .split V V ?_ ?_<;>intro hc1
  ·refine .mV V (.iV V (.kT V (.nil ?_)));exact ⟨⟨Z3W hc1,U⟩,H.wk (by omega)⟩
  ·refine .ps 2 V (.kF V (.nil ?_));exact ⟨⟨Z3I hc1,U⟩,H.wk (by omega)⟩
 refine .aV V (.na H λH=>(.ret ?_));subst h;exact Ends.eR V
theorem Z5v {i:Int} {r:Bool} (h:Z15 i=r):Fn CX 32 [(vi i)] (vb r):=by
 refine Fn.go Tryd.func32 V λG H=>?_;unfold Z15 at h;refine .tR 1 V H λb1 G H=>(.aV V (.na H λH=>(.tR 7 V H λb2 G H=>(.mV V (.iV V (.mV V ?_))))));refine .md H 3 [(8,(vb ((decide (i>=(-1099511627776)))&&(decide (i<=1099511627776)))))] [] V ?_ λe G H=>?_
 ·refine .split V V ?_ ?_<;>intro hc1
  ·refine .mV V (.iV V (.kT V (.nil ?_)));exact ⟨⟨Z3W hc1,U⟩,H.wk (by omega)⟩
  ·refine .ps 2 V (.kF V (.nil ?_));exact ⟨⟨Z3I hc1,U⟩,H.wk (by omega)⟩
 refine .aV V (.na H λH=>(.ret ?_));subst h;exact Ends.eR V
theorem Z0I {x':(List Granule)} {target:Int} {cmp:Granule->Int->Option Int} {C:List Res} {cv0:PV} (hs0:cv0.one=true) (hp0:cv0.pure=true->C=[]) (hf0:∀ z0 z1 y,cmp z0 z1=some y->CloH CX cv0 [(.agg (vs (Granule.cs z0))),(vi z1)] (vi y) C) {r:Int×Bool} (h:Z2 x' target cmp=some r):FnH CX 68 [(vl Granule.cs x'),(vi target),cv0] (.tup [(vi r.1),(vb r.2)]) C:=by
 refine FnH.of Tryd.func68 V V V V (all_t V (all_t V (all_t (one_still hs0) all_nil))) V (λh=>hp0 (all_get h 2 V)) ?_;intro G L hC H;unfold Z2 at h;refine .tR 2 V H λb1 G H=>(.aV V (.aV V (.na H λH=>(.tR 3 V H λb2 G H=>(.mV V (.nV V (.aV V (.na H λH=>?_))))))));refine .tR 3 V H λb3 G H=>(.mV V (.aV V (.aV V (.na H λH=>(.then (.inBlock ?_))))));refine .lp h (λs1=>[(0,(vl Granule.cs x')),(1,(vi target)),(2,cv0),(8,(vi (x'.length:Int))),(9,(vi s1.1)),(10,(vi s1.2))]) (λs1=>(L)) (.exit 0) (λy1=>[(0,(vl Granule.cs x')),(1,(vi target)),(2,cv0),(8,(vi (x'.length:Int))),(9,(vi y1))]) (λy1=>(L)) (EI V) H (λs1 e G H z h=>?_) λy1 e G H h=>?_
 ·unfold Z2.s0 at h;refine .then (.tR 3 V H λb4 G H=>(.mV V (.mV V (.iV V (.na H λH=>?_)))));refine .wh h V ?_ ?_<;>intro h
  ·refine .skip (.inBlock ?_);refine .jn h .normal (λy2=>[(0,(vl Granule.cs x')),(1,(vi target)),(2,cv0),(8,(vi (x'.length:Int))),(9,(vi y2.1)),(10,(vi y2.2))]) (λy2=>(L)) (λy2 h=>?_) λy2 e G H h=>?_
   ·refine .tR 7 V H λb5 G H=>(.mV V (.mV V (.iV V (.conv (m:=(w64 (s1.1+s1.2))) V V V V (.shr (m:=(IntKind.u64.wrap (w64 (s1.1+s1.2)))) (m':=1) V V (by decide) V (.conv (m:=((IntKind.u64.wrap (w64 (s1.1+s1.2))).fdiv (2 ^ 1))) V V V V (.aV V (.na H λH=>?_))))))));refine .tR 8 V H λb6 G H=>(.m1 cv0 V V (.mV V (.mV V ?_)));obtain ⟨x1,q1,h⟩:=bs h;refine .jV q1 V (.qV [(.int .i64 x1.Index),(.sl (x1.Ticks.map Span.cs))] V (.mV V ?_));obtain ⟨x2,q2,h⟩:=bs h;refine .callV (cv:=cv0) (ys:=[(.agg (vs (Granule.cs x1))),(vi target)]) (r:=(vi x2)) H V V (hf0 x1 target _ q2) hC nofun V λG H=>(.iV V (.na H λH=>?_));refine .wh h V ?_ ?_<;>intro h
    ·refine .Za 3 V H λb7 G H=>(.mV V (.iV V (.aV V (.na H λH=>?_))));obtain rfl:=sj h;exact ⟨V,EI V,H⟩
    refine .Za 2 V H λb8 G H=>(.mV V (.aV V (.na H λH=>?_)));obtain rfl:=sj h;exact ⟨V,EI V,H⟩
   obtain rfl:=sj h;exact ⟨V,EI V,H⟩
  refine .exit ?_;obtain rfl:=sj h;exact ⟨nofun,⟨V,EI V,H⟩⟩
 refine .tR 16 V H λb9 G H=>(.mV V (.mV V (.mV V (.iV V (.mV V ?_)))));obtain ⟨y3,hj3,h⟩:=bs h;refine .md H 9 [(48,(vb y3)),(35,(vi y1))] (L) V ?_ λe G H=>?_
 ·refine .sp hj3 V ?_ ?_<;>intro h
  ·refine .m1 cv0 V V (.mV V (.mV V (.wt V V ?_)));obtain ⟨x3,q3,h⟩:=bs h;refine .jV q3 V (.qV [(.int .i64 x3.Index),(.sl (x3.Ticks.map Span.cs))] V (.mV V (.wt V V ?_)));obtain ⟨x4,q4,h⟩:=bs h;refine .callV (cv:=cv0) (ys:=[(.agg (vs (Granule.cs x3))),(vi target)]) (r:=(vi x4)) H V V (hf0 x3 target _ q4) hC nofun V λG H=>(.iV V (.kT V (.nil ?_)));obtain rfl:=sj h;exact ⟨EI V,H.wk (by omega)⟩
  refine .ps 8 V (.kF V (.nil ?_));obtain rfl:=sj h;exact ⟨EI V,H.wk (by omega)⟩
 refine .aV V (.aV V (.na H λH=>(.ret ?_)));obtain rfl:=sj h;exact (EndsH.H (xs:=[(vi y1),(vb y3)]) (.inr V) H (.tmp (v:=(vi y1)) V (.tmp (v:=(vb y3)) V .nil)) (.two (.cons (.c (.v _)) (.cons (.c (.v _)) .nil))) 0 V)
theorem Z2Y {x':Int} {r:Bool} (h:Z0b x'=r):Fn CX 81 [(vi x')] (vb r):=by
 refine Fn.go Tryd.func81 V λG H=>?_;unfold Z0b at h;refine .tR 1 V H λb1 G H=>(.aV V (.na H λH=>(.tR 4 V H λb2 G H=>(.mV V (.mV V (.iV V (.aV V (.na H λH=>?_))))))));refine .ret ?_;subst h;exact Ends.eR V
theorem Z4O {x':Int} {y:Int} {r:Int} (h:Z0Z x' y=r):Fn CX 70 [(vi x'),(vi y)] (vi r):=by
 refine Fn.go Tryd.func70 V λG H=>?_;unfold Z0Z at h;refine .tR 1 V H λb1 G H=>(.aV V (.na H λH=>(.tR 3 V H λb2 G H=>(.mV V (.cV (Z2Y V) V (.aV V (.na H λH=>(.tR 3 V H λb3 G H=>?_))))))));refine .mV V (.cV (Z2Y V) V (.aV V (.na H λH=>(.then (.tR 1 V H λb4 G H=>(.mV V (.na H λH=>?_)))))));refine .wh h V ?_ ?_<;>intro h
 ·refine .then (.tR 1 V H λb5 G H=>(.mV V (.na H λH=>?_)));refine .wh h V ?_ ?_<;>intro h
  ·refine .tR 1 V H λb6 G H=>(.aV V (.na H λH=>(.ret ?_)));subst h;exact Ends.eR V
  refine .skip (.tR 1 V H λb7 G H=>(.aV V (.na H λH=>(.ret ?_))));subst h;exact Ends.eR V
 refine .skip (.then (.tR 1 V H λb8 G H=>(.mV V (.na H λH=>?_))));refine .wh h V ?_ ?_<;>intro h
 ·refine .tR 1 V H λb9 G H=>(.aV V (.na H λH=>(.ret ?_)));subst h;exact Ends.eR V
 refine .skip (.then (.tR 3 V H λb10 G H=>(.mV V (.mV V (.iV V (.na H λH=>?_))))));refine .wh h V ?_ ?_<;>intro h
 ·refine .tR 1 V H λb11 G H=>(.aV V (.na H λH=>(.ret ?_)));subst h;exact Ends.eR V
 refine .skip (.then (.tR 3 V H λb12 G H=>(.mV V (.mV V (.iV V (.na H λH=>?_))))));refine .wh h V ?_ ?_<;>intro h
 ·refine .tR 1 V H λb13 G H=>(.aV V (.na H λH=>(.ret ?_)));subst h;exact Ends.eR V
 refine .skip (.tR 1 V H λb14 G H=>(.aV V (.na H λH=>(.ret ?_))));subst h;exact Ends.eR V
theorem gran_odd_1_fn {g:Granule} {i:Int} {r:Int} (h:Z1Q g i=r):Fn CX 69 [(.agg (vs (Granule.cs g))),(vi i)] (vi r):=by
 refine Fn.go Tryd.func69 V λG H=>?_;unfold Z1Q at h;refine .tR 2 V H λb1 G H=>(.bxc (cs:=[(vi g.Index),(vl Span.cs g.Ticks)]) H V V V λG H=>(.aV V (.na H λH=>(.tR 5 V H λb2 G H=>(.fV H 0 V (.lV H 0 V (.mV V (.cV (Z4O V) V ?_))))))));refine .aV V (.na H λH=>(.ret ?_));subst h;exact Ends.eR V
theorem gran_odd_fn {f:Form} {i:Int} {r:Int×Bool} (h:Z3V f i=some r):Fn CX 51 [(.agg (vs (Form.cs f))),(vi i)] (.tup [(vi r.1),(vb r.2)]):=by
 refine Fn.go Tryd.func51 V λG H=>?_;unfold Z3V at h;refine .tR 3 V H λb1 G H=>(.bxc (cs:=(vF f)) H V V V λG H=>(.aV V (.aV V (.na H λH=>(.tR 8 V H λb2 G H=>(.fV H 0 V (.lV H 0 V (.mV V ?_))))))));obtain ⟨x1,q1,h⟩:=bs h;refine .callH (ys:=[(vl Granule.cs f.Odd),(vi i),(.v (.fn 69))]) (r:=(.tup [(vi x1.1),(vb x1.2)])) H V (Z0I (C:=[]) V (λ_=>V) (λz0 z1 y hz=>(CloH.fn (Fn.toH (gran_odd_1_fn (Option.some.inj hz)) _))) q1) .nil nofun V λG H=>(.xV V (.xV V (.aV V (.aV V (.na H λH=>(.ret ?_))))));obtain rfl:=sj h;exact Ends.eR V
theorem safe_Floor_fn {a:Int} {b:Int} {r:Int×Int×Int} (h:Z24 a b=some r):Fn CX 52 [(vi a),(vi b)] (.tup [(vi r.1),(vi r.2.1),(vi r.2.2)]):=by
 refine Fn.go Tryd.func52 V λG H=>?_;unfold Z24 at h;refine .tR 3 V H λb1 G H=>(.aV V (.aV V (.aV V (.na H λH=>(.then (.inBlock (.tR 3 V H λb2 G H=>(.mV V ?_))))))));refine .iV V (.aV V (.na H λH=>?_));refine .wh h V ?_ ?_<;>intro h
 ·refine .tR 3 V H λb3 G H=>(.aV V (.aV V (.aV V (.na H λH=>(.ret ?_)))));obtain rfl:=sj h;exact Ends.eR V
 refine .tR 7 V H λb4 G H=>(.mV V (.iV V (.mV V ?_)));refine .md H 3 [(18,(vb ((b==(-1))&&(a==(-9223372036854775808))))),(0,(vi a)),(1,(vi b))] [] V ?_ λe G H=>?_
 ·refine .split V V ?_ ?_<;>intro hc2
  ·refine .mV V (.iV V (.kT V (.nil ?_)));exact ⟨⟨Z3W hc2,V,V,U⟩,H.wk (by omega)⟩
  ·refine .ps 2 V (.kF V (.nil ?_));exact ⟨⟨Z3I hc2,V,V,U⟩,H.wk (by omega)⟩
 refine .aV V (.na H λH=>?_);refine .wh h V ?_ ?_<;>intro h
 ·refine .tR 3 V H λb5 G H=>(.aV V (.aV V (.aV V (.na H λH=>(.ret ?_)))));obtain rfl:=sj h;exact Ends.eR V
 refine .skip (.then (.Z0v 8 V (by kernel_rfl) H λb6 G H B6=>(.mV V (.mV V ?_))));obtain ⟨u1,q1,h⟩:=bs h;refine .quo (m:=a) (m':=b) V V (nz_ne q1) V (.mV V (.mV V ?_));obtain ⟨u2,q2,h⟩:=bs h;refine .rem (m:=a) (m':=b) V V (nz_ne q2) V (.aV V (.aV V (.na H λH=>(.then ?_))));refine .jn h .normal (λy1=>[(7,(vi y1.1)),(8,(vi y1.2))]) (λy1=>[]) (λy1 h=>?_) λy1 e G H h=>?_
 ·refine .tR 9 V H λb7 G H=>(.mV V (.iV V (.mV V ?_)));refine .md H 6 [(33,(vb (((a.tmod b) != 0)&&((decide ((a.tmod b)<0)) != (decide (b<0)))))),(1,(vi b)),(7,(vi (w64 (a.tdiv b)))),(8,(vi (a.tmod b)))] [] V ?_ λe G H=>?_
  ·refine .split V V ?_ ?_<;>intro hc4
   ·refine .mV V (.iV V (.mV V (.iV V (.wt V V (.neB (b:=(decide ((a.tmod b)<0))) (b':=(decide (b<0))) V V V V (.kT V (.nil ?_)))))));exact ⟨⟨Z3W hc4,V,V,V,U⟩,H.wk (by omega)⟩
   ·refine .ps 5 V (.kF V (.nil ?_));exact ⟨⟨Z3I hc4,V,V,V,U⟩,H.wk (by omega)⟩
  refine .na H λH=>?_;refine .wh h V ?_ ?_<;>intro h
  ·refine .Za 7 V H λb8 G H=>(.mV V (.iV V (.mV V (.mV V (.iV V (.aV V (.aV V (.na H λH=>?_))))))));obtain rfl:=sj h;exact ⟨V,EI V,H⟩
  refine .skip ?_;obtain rfl:=sj h;exact ⟨V,EI V,H⟩
 refine .tR 5 V H λb9 G H=>(.mV V (.mV V (.aV V (.aV V (.aV V (.na H λH=>(.ret ?_)))))));obtain rfl:=sj h;exact Ends.eR V
theorem Z4f {a:Int} {r:Int} (h:Z01 a=r):Fn CX 72 [(vi a)] (vu r):=by
 refine Fn.go Tryd.func72 V λG H=>?_;unfold Z01 at h;refine .tR 1 V H λb1 G H=>(.aV V (.na H λH=>(.then (.tR 2 V H λb2 G H=>(.mV V (.iV V (.na H λH=>?_)))))));refine .wh h V ?_ ?_<;>intro h
 ·refine .tR 4 V H λb3 G H=>(.mV V (.conv (m:=a) V V V V (.neg (m:=(IntKind.u64.wrap a)) V V (.aV V (.na H λH=>(.ret ?_))))));subst h;exact Ends.eR V
 refine .skip (.tR 3 V H λb4 G H=>(.mV V (.conv (m:=a) V V V V (.aV V (.na H λH=>(.ret ?_))))));subst h;exact Ends.eR V
theorem Z4H {x':Int} {y:Int} {r:Int×Int} (h:Zl x' y=r):Fn CX 71 [(vu x'),(vu y)] (.tup [(vu r.1),(vu r.2)]):=by
 refine Fn.go Tryd.func71 V λG H=>?_;unfold Zl at h;refine .tR 2 V H λb1 G H=>(.aV V (.aV V (.na H λH=>(.tR 3 V H λb2 G H=>(.mV V (.iV V (.aV V (.na H λH=>?_))))))));refine .tR 3 V H λb3 G H=>(.mV V (.shr (m:=x') (m':=32) V V (by decide) V (.aV V (.na H λH=>(.tR 3 V H λb4 G H=>(.mV V (.iV V (.aV V ?_))))))));refine .na H λH=>(.tR 3 V H λb5 G H=>(.mV V (.shr (m:=y) (m':=32) V V (by decide) V (.aV V (.na H λH=>(.tR 4 V H λb6 G H=>(.mV V (.mV V ?_))))))));refine .iV V (.aV V (.na H λH=>(.tR 7 V H λb7 G H=>(.mV V (.mV V (.iV V (.mV V (.shr (m:=(IntKind.u64.wrap ((iAnd .u64 x' 4294967295)*(iAnd .u64 y 4294967295)))) (m':=32) V V (by decide) V ?_))))))));refine .iV V (.aV V (.na H λH=>(.tR 3 V H λb8 G H=>(.mV V (.iV V (.aV V (.na H λH=>(.tR 3 V H λb9 G H=>?_))))))));refine .mV V (.shr (m:=(IntKind.u64.wrap ((IntKind.u64.wrap ((x'.fdiv (2 ^ 32))*(iAnd .u64 y 4294967295)))+((IntKind.u64.wrap ((iAnd .u64 x' 4294967295)*(iAnd .u64 y 4294967295))).fdiv (2 ^ 32))))) (m':=32) V V (by decide) V (.aV V (.na H λH=>(.tR 6 V H λb10 G H=>(.mV V (.mV V (.mV V (.iV V ?_))))))));refine .iV V (.aV V (.na H λH=>(.tR 9 V H λb11 G H=>(.mV V (.mV V (.iV V (.mV V (.iV V ?_))))))));refine .mV V (.shr (m:=(IntKind.u64.wrap ((iAnd .u64 (IntKind.u64.wrap ((IntKind.u64.wrap ((x'.fdiv (2 ^ 32))*(iAnd .u64 y 4294967295)))+((IntKind.u64.wrap ((iAnd .u64 x' 4294967295)*(iAnd .u64 y 4294967295))).fdiv (2 ^ 32)))) 4294967295)+(IntKind.u64.wrap ((iAnd .u64 x' 4294967295)*(y.fdiv (2 ^ 32))))))) (m':=32) V V (by decide) V (.iV V (.aV V (.na H λH=>(.tR 4 V H λb12 G H=>(.mV V (.mV V (.iV V ?_))))))))
 refine .aV V (.na H λH=>(.ret ?_));subst h;exact Ends.eR V
end Go.Dn

namespace Go.Dn
open Go Go.Proofs
set_option maxRecDepth 100000
set_option maxHeartbeats 4000000
theorem Z6S {n:Int} {minus:Bool} {r:Int×Int} (h:Z11 n minus=r):Fn CX 73 [(vu n),(vb minus)] (.tup [(vi r.1),(vi r.2)]):=by
 refine Fn.go Tryd.func73 V λG H=>?_;unfold Z11 at h;refine .tR 2 V H λb1 G H=>(.aV V (.aV V (.na H λH=>(.then (.inBlock (.tR 6 V H λb2 G H=>(.mV V (.mV V ?_))))))));refine .md H 3 [(11,(vb (minus&&(decide (n<=9223372036854775808))))),(0,(vu n)),(1,(vb minus))] [] V ?_ λe G H=>?_
 ·refine .split V V ?_ ?_<;>intro hc1
  ·refine .mV V (.iV V (.kT V (.nil ?_)));exact ⟨⟨Z3W hc1,V,V,U⟩,H.wk (by omega)⟩
  ·refine .ps 2 V (.kF V (.nil ?_));exact ⟨⟨Z3I hc1,V,V,U⟩,H.wk (by omega)⟩
 refine .aV V (.na H λH=>?_);refine .wh h V ?_ ?_<;>intro h
 ·refine .tR 5 V H λb3 G H=>(.mV V (.neg (m:=n) V V (.conv (m:=(IntKind.u64.wrap (0-n))) V V V V (.aV V (.aV V (.na H λH=>(.ret ?_)))))));subst h;exact Ends.eR V
 refine .tR 7 V H λb4 G H=>(.mV V (.tV V (.mV V ?_)));refine .md H 3 [(21,(vb ((!minus)&&(decide (n<=9223372036854775807))))),(0,(vu n))] [] V ?_ λe G H=>?_
 ·refine .split V V ?_ ?_<;>intro hc3
  ·refine .mV V (.iV V (.kT V (.nil ?_)));exact ⟨⟨Z3W hc3,V,U⟩,H.wk (by omega)⟩
  ·refine .ps 2 V (.kF V (.nil ?_));exact ⟨⟨Z3I hc3,V,U⟩,H.wk (by omega)⟩
 refine .aV V (.na H λH=>?_);refine .wh h V ?_ ?_<;>intro h
 ·refine .tR 4 V H λb5 G H=>(.mV V (.conv (m:=n) V V V V (.aV V (.aV V (.na H λH=>(.ret ?_))))));subst h;exact Ends.eR V
 refine .skip (.tR 2 V H λb6 G H=>(.aV V (.aV V (.na H λH=>(.ret ?_)))));subst h;exact Ends.eR V
theorem safe_Mul_fn {a:Int} {b:Int} {r:Int×Int} (h:Z1h a b=r):Fn CX 53 [(vi a),(vi b)] (.tup [(vi r.1),(vi r.2)]):=by
 refine Fn.go Tryd.func53 V λG H=>?_;unfold Z1h at h;refine .tR 2 V H λb1 G H=>(.aV V (.aV V (.na H λH=>(.tR 10 V H λb2 G H=>(.mV V (.cV (Z4f V) V (.mV V (.cV (Z4f V) V ?_))))))));refine .cV (Z4H V) V (.m1 (.tup [(vu (Zl (Z01 a) (Z01 b)).1),(vu (Zl (Z01 a) (Z01 b)).2)]) V V (.xV V (.xV V (.aV V (.aV V (.na H λH=>(.then (.tR 2 V H λb3 G H=>?_))))))));refine .mV V (.iV V (.na H λH=>?_));refine .wh h V ?_ ?_<;>intro h
 ·refine .tR 2 V H λb4 G H=>(.aV V (.aV V (.na H λH=>(.ret ?_))));subst h;exact Ends.eR V
 refine .skip (.tR 11 V H λb5 G H=>(.mV V (.mV V (.iV V (.mV V (.iV V (.neB (b:=(decide (a<0))) (b':=(decide (b<0))) V V V V (.cV (Z6S V) V ?_))))))));refine .xV V (.xV V (.aV V (.aV V (.na H λH=>(.ret ?_)))));subst h;exact Ends.eR V
theorem gran_kept_fn {f:Form} {i:Int} {r:(List Span)×Int×Int} (h:Z1S f i=some r):Fn CX 33 [(.agg (vs (Form.cs f))),(vi i)] (.tup [(vl Span.cs r.1),(vi r.2.1),(vi r.2.2)]):=by
 refine Fn.go Tryd.func33 V λG H=>?_;unfold Z1S at h;refine .tR 4 V H λb1 G H=>(.bxc (cs:=(vF f)) H V V V λG H=>(.a1 .nils V V (.aV V (.aV V (.na H λH=>(.then (.tR 8 V H λb2 G H=>(.LV (vF f) H 0 V ?_))))))));refine .mV V ?_;obtain ⟨x1,q1,h⟩:=bs h;refine .cV (gran_odd_fn q1) V (.m1 (.tup [(vi x1.1),(vb x1.2)]) V V (.xV V (.xV V (.aV V (.aV V (.na H λH=>(.tR 1 V H λb3 G H=>(.mV V ?_))))))));refine .na H λH=>?_;refine .wh h V ?_ ?_<;>intro h
 ·refine .tR 9 V H λb4 G H=>(.fV H 0 V (.lV H 0 V (.mV V ?_)));obtain ⟨x2,q2,h⟩:=bs h;refine .jV q2 V (.Z0g V V V V (.pV V (.aV V (.aV V (.aV V (.na H λH=>(.ret ?_)))))));obtain rfl:=sj h;exact Ends.eR V
 refine .skip (.then (.tR 3 V H λb5 G H=>(.fV H 0 V (.lV H 0 V (.iV V (.na H λH=>?_))))));refine .wh h V ?_ ?_<;>intro h
 ·refine .tR 3 V H λb6 G H=>(.a1 .nils V V (.aV V (.aV V (.na H λH=>(.ret ?_)))));obtain rfl:=sj h;exact (Ends.H (xs:=[.nils,(vi 0),(vi 0)]) (.inr V) H (.tmp (v:=.nils) V (.tmp (v:=(vi 0)) V (.tmp (v:=(vi 0)) V .nil))) (.two (.cons (.c .n) (.cons (.c (.v _)) (.cons (.c (.v _)) .nil)))))
 refine .skip (.tR 11 V H λb7 G H=>(.mV V (.fV H 0 V (.lV H 0 V ?_))));obtain ⟨x3,q3,h⟩:=bs h;refine .cV (safe_Floor_fn q3) V (.m1 (.tup [(vi x3.1),(vi x3.2.1),(vi x3.2.2)]) V V (.xV V (.xV V (.xV V (.aV V (.aV V (.aV V (.na H λH=>?_))))))));refine .tR 9 V H λb8 G H=>(.mV V (.fV H 0 V (.lV H 0 V (.cV (safe_Mul_fn V) V (.m1 (.tup [(vi (Z1h x3.1 f.Period).1),(vi (Z1h x3.1 f.Period).2)]) V V (.xV V (.xV V (.aV V ?_))))))));refine .aV V (.na H λH=>(.tR 10 V H λb9 G H=>(.fV H 0 V (.lV H 0 V (.mV V ?_)))));obtain ⟨x4,q4,h⟩:=bs h;refine .jV q4 V (.pV V (.mV V (.mV V (.aV V (.aV V (.aV V (.na H λH=>(.ret ?_))))))));obtain rfl:=sj h;exact Ends.eR V
theorem Z5c {a:Int} {b:Int} {r:Int×Int} (h:ZG a b=r):Fn CX 54 [(vi a),(vi b)] (.tup [(vi r.1),(vi r.2)]):=by
 refine Fn.go Tryd.func54 V λG H=>?_;unfold ZG at h;refine .tR 2 V H λb1 G H=>(.aV V (.aV V (.na H λH=>(.tR 4 V H λb2 G H=>(.mV V (.mV V (.iV V (.aV V ?_))))))));refine .na H λH=>(.then (.tR 10 V H λb3 G H=>(.mV V (.mV V (.iV V (.mV V (.iV V (.neB (b:=(decide ((w64 (a+b))>a))) (b':=(decide (b>0))) V V V V ?_))))))));refine .mV V ?_;refine .md H 3 [(19,(vb (((decide ((w64 (a+b))>a)) != (decide (b>0)))&&(b != 0)))),(6,(vi (w64 (a+b))))] [] V ?_ λe G H=>?_
 ·refine .split V V ?_ ?_<;>intro hc1
  ·refine .mV V (.iV V (.kT V (.nil ?_)));exact ⟨⟨Z3W hc1,V,U⟩,H.wk (by omega)⟩
  ·refine .ps 2 V (.kF V (.nil ?_));exact ⟨⟨Z3I hc1,V,U⟩,H.wk (by omega)⟩
 refine .na H λH=>?_;refine .wh h V ?_ ?_<;>intro h
 ·refine .tR 2 V H λb4 G H=>(.aV V (.aV V (.na H λH=>(.ret ?_))));subst h;exact Ends.eR V
 refine .skip (.tR 3 V H λb5 G H=>(.mV V (.aV V (.aV V (.na H λH=>(.ret ?_))))));subst h;exact Ends.eR V
theorem spans_Move_fn {l:(List Span)} {by':Int} {r:(List Span)×Int} (h:Zn l by'=some r):Fn CX 34 [(vl Span.cs l),(vi by')] (.tup [(vl Span.cs r.1),(vi r.2)]):=by
 refine Fn.go Tryd.func34 V λG H=>?_;unfold Zn at h;refine .tR 2 V H λb1 G H=>(.a1 .nils V V (.aV V (.na H λH=>(.tR 1 V H λb2 G H=>(.a1 .nils V V (.na H λH=>(.then (.tR 3 V H λb3 G H=>?_))))))));refine .mV V (.nV V (.mV V (.na H λH=>(.inBlock ?_))));replace H:=H.pushNil 54 2 true;obtain ⟨y1,hj1,h⟩:=bs h;obtain ⟨n1,hj1⟩:=Zu.1 hj1;refine .mono (Runs.loopO hj1 (λs2 e G=>∃ (w3:PV),Zd e [(1,(vi by')),(6,w3),(13,(vl Span.cs l)),(14,(vi (l.length:Int))),(15,(vi s2.1))]/\Hs G [.sl w3 54 2 (s2.2.map Span.cs) true]) (λy1 x e G=>(∃ a1,∃ (w4:PV),y1=(.go a1)/\x = .exit 0/\Zd e [(6,w4)]/\Hs G [.sl w4 54 2 (a1.map Span.cs) true])\/(∃ r',y1=(.ret r')/\x = .ret/\Ends CX Tryd.f34.results.toList (.tup [(vl Span.cs r'.1),(vi r'.2)]) x e G)) ⟨.nils,EI V,H⟩ ?_) ?_
 ·intro s2 e G hI z h;obtain ⟨w3,he,H⟩:=hI;obtain ⟨e,rfl⟩:=he.ex;unfold Zn.s0 at h;refine .tR 1 V H λb4 G H=>(.iV V (.na H λH=>(.then ?_)));refine .wh h V ?_ ?_<;>intro h
  ·refine .skip (.then (.inBlock (.tR 4 V H λb5 G H=>?_)));obtain ⟨x1,q1,h⟩:=bs h;refine .jV q1 V (.qV [(.int .i64 x1.From),(.int .i64 x1.To)] V (.alc (cs:=[(vi 0),(vi 0)]) H V V λG H=>(.sV [(vi x1.From),(vi x1.To)] H 0 V λG H=>(.na H λH=>(.tR 9 V H λb6 G H=>(.fV H 0 V (.lV H 0 V (.mV V ?_))))))));refine .cV (Z5c V) V (.m1 (.tup [(vi (ZG x1.From by').1),(vi (ZG x1.From by').2)]) V V (.xV V (.xV V (.aV V (.aV V (.na H λH=>(.tR 9 V H λb7 G H=>(.fV H 0 V ?_))))))));refine .lV H 0 V (.mV V (.cV (Z5c V) V (.m1 (.tup [(vi (ZG x1.To by').1),(vi (ZG x1.To by').2)]) V V (.xV V (.xV V (.aV V (.aV V (.na H λH=>?_))))))));refine .then (.tR 16 V H λb8 G H=>(.mV V (.iV V (.mV V ?_))));refine .md H 3 [(38,(vb ((((ZG x1.From by').2) != 0)||(((ZG x1.To by').2) != 0)))),(1,(vi by')),(6,w3),(9,(vi (ZG x1.From by').1)),(11,(vi (ZG x1.To by').1)),(13,(vl Span.cs l)),(14,(vi (l.length:Int))),(15,(vi s2.1))] [.sl w3 54 2 (s2.2.map Span.cs) true] rfl ?_ λe G H=>?_
   ·refine .split V V ?_ ?_<;>intro hc2
    ·refine .ps 2 V (.kT V (.nil ?_));exact ⟨⟨or_T hc2,V,V,V,V,V,V,V,U⟩,(H.erase 0).wk (by omega)⟩
    ·refine .mV V (.iV V (.kF V (.nil ?_)));exact ⟨⟨or_F hc2,V,V,V,V,V,V,V,U⟩,(H.erase 0).wk (by omega)⟩
   refine .mV V ?_;refine .md H 4 [(43,(vb (((((ZG x1.From by').2) != 0)||(((ZG x1.To by').2) != 0))||(!(Z0X ((ZG x1.From by').1)))))),(1,(vi by')),(6,w3),(9,(vi (ZG x1.From by').1)),(11,(vi (ZG x1.To by').1)),(13,(vl Span.cs l)),(14,(vi (l.length:Int))),(15,(vi s2.1))] [.sl w3 54 2 (s2.2.map Span.cs) true] rfl ?_ λe G H=>?_
   ·refine .split V V ?_ ?_<;>intro hc3
    ·refine .ps 3 V (.kT V (.nil ?_));exact ⟨⟨or_T hc3,V,V,V,V,V,V,V,U⟩,H.wk (by omega)⟩
    ·refine .mV V (.cV (Z3w V) V (.tV V (.kF V (.nil ?_))));exact ⟨⟨or_F hc3,V,V,V,V,V,V,V,U⟩,H.wk (by omega)⟩
   refine .mV V ?_;refine .md H 4 [(48,(vb ((((((ZG x1.From by').2) != 0)||(((ZG x1.To by').2) != 0))||(!(Z0X ((ZG x1.From by').1))))||(!(Z0X ((ZG x1.To by').1)))))),(1,(vi by')),(6,w3),(9,(vi (ZG x1.From by').1)),(11,(vi (ZG x1.To by').1)),(13,(vl Span.cs l)),(14,(vi (l.length:Int))),(15,(vi s2.1))] [.sl w3 54 2 (s2.2.map Span.cs) true] rfl ?_ λe G H=>?_
   ·refine .split V V ?_ ?_<;>intro hc4
    ·refine .ps 3 V (.kT V (.nil ?_));exact ⟨⟨or_T hc4,V,V,V,V,V,V,V,U⟩,H.wk (by omega)⟩
    ·refine .mV V (.cV (Z3w V) V (.tV V (.kF V (.nil ?_))));exact ⟨⟨or_F hc4,V,V,V,V,V,V,V,U⟩,H.wk (by omega)⟩
   refine .na H λH=>?_;refine .wh h V ?_ ?_<;>intro h
   ·refine .tR 2 V H λb9 G H=>(.a1 .nils V V (.aV V (.na H λH=>(.ret ?_))));obtain rfl:=sj h;exact ⟨nofun,(.inr ⟨_,V,V,(Ends.H (xs:=[.nils,(vi 20)]) (.inr V) H (.tmp (v:=.nils) V (.tmp (v:=(vi 20)) V .nil)) (.two (.cons (.c .n) (.cons (.c (.v _)) .nil))))⟩)⟩
   refine .skip (.Za 7 V H λb10 G H=>(.m1 w3 V V (.mV V (.mV V (.bV [(vi (ZG x1.From by').1),(vi (ZG x1.To by').1)] V (.Z3H (sz:=2) ([(Span.mk ((ZG x1.From by').1) ((ZG x1.To by').1))].map Span.cs) H (by omega) (by omega) V V V V V V V V V λG H=>?_))))));obtain ⟨x2,q2,h⟩:=bs h;refine .appendSt (c:=Span.cs) (v:=w3) (w:=(.buf (b10+4) 1 2)) (xs:=s2.2) (ys:=[(Span.mk ((ZG x1.From by').1) ((ZG x1.To by').1))]) H (by omega) (by omega) 1 V V V (.s 0 V) q2 V V V V V nofun V λw5 G H=>(.a1 w5 V V (.na H λH=>(.Za 2 V H λb11 G H=>(.iV V (.mV V (.na H λH=>?_))))));obtain rfl:=sj h;exact ⟨V,w5,EI V,(H.erase 0)⟩
  refine .exit ?_;obtain rfl:=sj h;exact ⟨nofun,(.inl ⟨_,w3,V,V,EI V,H⟩)⟩
 ·rintro x e G (⟨a2,w6,rfl,rfl,he,H⟩|⟨r',rfl,rfl,hE⟩)
  ·replace h:=jgo h;obtain ⟨e,rfl⟩:=he.ex;refine .tR 3 V H λb12 G H=>(.m1 w6 V V (.a1 w6 V V (.aV V (.na H λH=>(.ret ?_)))));obtain rfl:=sj h;exact (Ends.H (xs:=[w6,(vi 0)]) (.inr V) H (.tmp (v:=w6) V (.tmp (v:=(vi 0)) V .nil)) (.two (.cons (.c (.s 0 V)) (.cons (.c (.v _)) .nil))))
  ·replace h:=jret h;obtain rfl:=sj h;exact hE
theorem gran_Get_fn {f:Form} {i:Int} {r:(List Span)×Int} (h:Z19 f i=some r):Fn CX 16 [(.agg (vs (Form.cs f))),(vi i)] (.tup [(vl Span.cs r.1),(vi r.2)]):=by
 refine Fn.go Tryd.func16 V λG H=>?_;unfold Z19 at h;refine .tR 3 V H λb1 G H=>(.bxc (cs:=(vF f)) H V V V λG H=>(.a1 .nils V V (.aV V (.na H λH=>(.then (.tR 3 V H λb2 G H=>(.mV V (.cV (Z5v V) V ?_))))))));refine .tV V (.na H λH=>?_);refine .wh h V ?_ ?_<;>intro h
 ·refine .tR 2 V H λb3 G H=>(.a1 .nils V V (.aV V (.na H λH=>(.ret ?_))));obtain rfl:=sj h;exact (Ends.H (xs:=[.nils,(vi 20)]) (.inr V) H (.tmp (v:=.nils) V (.tmp (v:=(vi 20)) V .nil)) (.two (.cons (.c .n) (.cons (.c (.v _)) .nil))))
 refine .skip (.tR 10 V H λb4 G H=>(.LV (vF f) H 0 V (.mV V ?_)));obtain ⟨x1,q1,h⟩:=bs h;refine .cV (gran_kept_fn q1) V (.m1 (.tup [(vl Span.cs x1.1),(vi x1.2.1),(vi x1.2.2)]) V V (.xV V (.xV V (.xV V (.aV V (.aV V (.aV V (.na H λH=>?_))))))));refine .then (.tR 3 V H λb5 G H=>(.mV V (.nV V (.iV V (.na H λH=>?_)))));refine .wh h V ?_ ?_<;>intro h
 ·refine .tR 2 V H λb6 G H=>(.a1 .nils V V (.aV V (.na H λH=>(.ret ?_))));obtain rfl:=sj h;exact (Ends.H (xs:=[.nils,(vi 0)]) (.inr V) H (.tmp (v:=.nils) V (.tmp (v:=(vi 0)) V .nil)) (.two (.cons (.c .n) (.cons (.c (.v _)) .nil))))
 refine .skip (.then (.tR 2 V H λb7 G H=>(.mV V (.iV V (.na H λH=>?_)))));refine .wh h V ?_ ?_<;>intro h
 ·refine .tR 2 V H λb8 G H=>(.a1 .nils V V (.aV V (.na H λH=>(.ret ?_))));obtain rfl:=sj h;exact (Ends.H (xs:=[.nils,(vi 20)]) (.inr V) H (.tmp (v:=.nils) V (.tmp (v:=(vi 20)) V .nil)) (.two (.cons (.c .n) (.cons (.c (.v _)) .nil))))
 refine .skip (.tR 7 V H λb9 G H=>(.mV V (.mV V ?_)));obtain ⟨x2,q2,h⟩:=bs h;refine .cV (spans_Move_fn q2) V (.xV V (.xV V (.aV V (.aV V (.na H λH=>(.ret ?_))))));obtain rfl:=sj h;exact Ends.eR V
theorem Z1k {s:(List (List Span))} {r:(List (List Span))} (h:ZW s=some r):FnO CX 45 [(vl (cL Span.cs) s)] (λq A=>∃ (w2:PV),w2=q/\A=[.sl w2 50 1 (r.map (cL Span.cs)) true]):=by
 refine FnO.ofFresh Tryd.func45 rfl (by cases s with|nil=>simp [ZW,some?] at h|cons _ _=>rfl) rfl rfl rfl rfl ?_ (λ_ _ hA=>by first|(obtain ⟨_,rfl,rfl⟩:=hA;rfl)|(obtain ⟨_,_,rfl,rfl⟩:=hA;rfl)|(obtain ⟨rfl,rfl⟩:=hA;rfl));intro G T H;unfold ZW at h;refine .tR 1 V H λb1 G H=>(.a1 .nils V V (.na H λH=>(.then (.tR 2 V H λb2 G H=>(.mV V ?_)))));obtain ⟨u1,q1,h⟩:=bs h;refine .isNilV (c:=(cL Span.cs)) q1 V V V V (.na H λH=>(.no V (.skip (.tR 4 V H λb3 G H=>(.Z3H (sz:=1) ([].map (cL Span.cs)) H (by omega) (by omega) V V V V V V V V V λG H=>(.mV V ?_))))));obtain ⟨x1,q2,h⟩:=bs h;refine .appendBt (c:=(cL Span.cs)) (w:=(vl (cL Span.cs) s)) (xs:=[]) (ys:=s) H (by omega) (by omega) 0 V V V (.m (λ_=>V)) q2 V V V V V nofun V λG H=>(.aB V (.na H λH=>(.ret ?_)));obtain rfl:=sj h;exact ⟨.inr V,_,Z1q H (.tmp (v:=(.buf (b3+0) x1.length 1)) V .nil),_,⟨(.buf (b3+0) x1.length 1),V,V⟩,H⟩
theorem cloneNil45 {l:(List (List Span))} (h:l.isEmpty=true):FnO CX 45 [(vl (cL Span.cs) l)] (λq A=>q=(vl (cL Span.cs) l)/\A=[]):=by
 cases l with
 | nil=>exact FnO.intr rfl rfl
 | cons a l=>cases h
theorem Z0G {s:(List Granule)} {r:(List Granule)} (h:ZV s=some r):FnO CX 46 [(vl Granule.cs s)] (λq A=>∃ (w2:PV),w2=q/\A=[.sl w2 81 2 (r.map Granule.cs) true]):=by
 refine FnO.ofFresh Tryd.func46 rfl (by cases s with|nil=>simp [ZV,some?] at h|cons _ _=>rfl) rfl rfl rfl rfl ?_ (λ_ _ hA=>by first|(obtain ⟨_,rfl,rfl⟩:=hA;rfl)|(obtain ⟨_,_,rfl,rfl⟩:=hA;rfl)|(obtain ⟨rfl,rfl⟩:=hA;rfl));intro G T H;unfold ZV at h;refine .tR 1 V H λb1 G H=>(.a1 .nils V V (.na H λH=>(.then (.tR 2 V H λb2 G H=>(.mV V ?_)))));obtain ⟨u1,q1,h⟩:=bs h;refine .isNilV (c:=Granule.cs) q1 V V V V (.na H λH=>(.no V (.skip (.tR 4 V H λb3 G H=>(.Z3H (sz:=2) ([].map Granule.cs) H (by omega) (by omega) V V V V V V V V V λG H=>(.mV V ?_))))));obtain ⟨x1,q2,h⟩:=bs h;refine .appendBt (c:=Granule.cs) (w:=(vl Granule.cs s)) (xs:=[]) (ys:=s) H (by omega) (by omega) 0 V V V (.m (λ_=>V)) q2 V V V V V nofun V λG H=>(.aB V (.na H λH=>(.ret ?_)));obtain rfl:=sj h;exact ⟨.inr V,_,Z1q H (.tmp (v:=(.buf (b3+0) x1.length 2)) V .nil),_,⟨(.buf (b3+0) x1.length 2),V,V⟩,H⟩
theorem Z6U {l:(List Granule)} (h:l.isEmpty=true):FnO CX 46 [(vl Granule.cs l)] (λq A=>q=(vl Granule.cs l)/\A=[]):=by
 cases l with
 | nil=>exact FnO.intr rfl rfl
 | cons a l=>cases h
theorem Zr {l:List Span} {r:List Span} (h:clone? 16 l=some r):Fn CX 47 [(vl Span.cs l)] (vl Span.cs r):=by
 obtain ⟨h1,rfl⟩:=clone_some h;refine Fn.intr ?_ V V V;rw [cx_intr47];unfold Z2m
 dsimp only
 rw [if_pos ⟨by simp [Span.cs],by simpa using h1⟩]
end Go.Dn

namespace Go.Dn
open Go Go.Proofs
set_option maxRecDepth 100000
set_option maxHeartbeats 4000000
theorem gran_Copy_fn {f:Form} {r:Form} (h:Z9 f=some r):Fn CX 24 [(.agg (vs (Form.cs f)))] (.agg (vs (Form.cs r))):=by
 refine Fn.go Tryd.func24 V λG H=>?_;unfold Z9 at h;refine .tR 2 V H λb1 G H=>(.bxc (cs:=(vF f)) H V V V λG H=>(.alc (cs:=[(vi 0),(vi 0),.nils,.nils]) H V V λG H=>(.na H λH=>(.then (.Z0v 13 V (by kernel_rfl) H λb2 G H B2=>(.ZA H 1 V V V V V (so (B2 1 _ V _ V)) V (.ld (vi f.Period) H 1 V V V V V (so (B2 1 _ V _ V)) V (.ZA H 1 V V V V V (so (B2 1 _ V _ V)) V ?_))))))));refine .ld (vi f.Count) H 1 V V V V V (so (B2 1 _ V _ V)) V (.ZA H 1 V V V V V (so (B2 1 _ V _ V)) V (.ld (vl (cL Span.cs) f.Core) H 1 V V V V V (so (B2 1 _ V _ V)) V ?_))
 rcases Bool.eq_false_or_eq_true (f.Core.isEmpty) with hce1|hce1
 ·replace h:=Z4L hce1 h;refine .Z5I (ys:=[(vl (cL Span.cs) f.Core)]) H rfl (cloneNil45 hce1) rfl (YG _) (λ_=>by kernel_rfl) rfl ?_;rintro _ _ G ⟨rfl,rfl⟩ H;replace H:Has G _ _ [.blk (b1+1) 29 [(vi 0),(vi 0),.nils,.nils],.blk (b1+0) 29 (vF f)]:=H;refine .ZA H 1 V V V V V (so (B2 1 _ V _ V)) V (.ld (vl Granule.cs f.Odd) H 1 V V V V V (so (B2 1 _ V _ V)) V ?_)
  rcases Bool.eq_false_or_eq_true (f.Odd.isEmpty) with hce2|hce2
  ·replace h:=Z4L hce2 h;refine .Z5I (ys:=[(vl Granule.cs f.Odd)]) H rfl (Z6U hce2) rfl (YG _) (λ_=>by kernel_rfl) rfl ?_;rintro _ _ G ⟨rfl,rfl⟩ H;replace H:Has G _ _ [.blk (b1+1) 29 [(vi 0),(vi 0),.nils,.nils],.blk (b1+0) 29 (vF f)]:=H;refine .bV (vF f) V (.alc (cs:=[(vi 0),(vi 0),.nils,.nils]) H V V λG H=>(.Z1y (cells':=(vF f)) H 0 V V V V V V V V V (λ_=>.inr ⟨11,V,by kernel_rfl,by decide⟩) λG H=>(.na H λH=>(.then (.tR 4 V H λb3 G H=>(.fV H 0 V (.lV H 0 V (.nV V ?_))))))));refine .mV V (.na H λH=>(.inBlock ?_));refine .lp h (λs1=>[(2,(.ptr (b1+1) 4 0)),(3,(.ptr (b2+11) 4 0)),(19,(vi (f.Core.length:Int))),(20,(vi 0))]) (λs1=>[.blk (b2+11) 29 (vF f),.blk (b1+1) 29 [(vi 0),(vi 0),.nils,.nils]]) (.exit 0) (λy1=>[(2,(.ptr (b1+1) 4 0)),(3,(.ptr (b2+11) 4 0))]) (λy1=>[.blk (b2+11) 29 (vF f),.blk (b1+1) 29 [(vi 0),(vi 0),.nils,.nils]]) (EI V) (H.erase 2) (λs1 e G H z h=>?_) λy1 e G H h=>?_
   ·unfold Z9.s0 at h;refine .tR 1 V H λb4 G H=>(.iV V (.na H λH=>(.then ?_)));refine .wh h V ?_ ?_<;>intro h
    ·refine .skip (.then (.inBlock (.tR 2 V H λb5 G H=>(.mV V (.aV V (.na H λH=>(.Z0v 11 V (by kernel_rfl) H λb6 G H B6=>(.ZA H 0 V V V V V (so (B6 0 _ V _ V)) V ?_))))))));refine .ld (vl (cL Span.cs) f.Core) H 0 V V V V V (so (B6 0 _ V _ V)) V (.mV V (.ZA H 0 V V V V V (so (B6 0 _ V _ V)) V (.ld (vl (cL Span.cs) f.Core) H 0 V V V V V (so (B6 0 _ V _ V)) V (.mV V ?_))));obtain ⟨x1,q1,h⟩:=bs h;exact (Z4m hce1 q1).elim
    refine .exit ?_;obtain rfl:=sj h;exact ⟨nofun,⟨V,EI V,H⟩⟩
   refine .then (.tR 4 V H λb7 G H=>(.fV H 0 V (.lV H 0 V (.nV V (.mV V (.na H λH=>(.inBlock ?_)))))));refine .lp h (λs2=>[(2,(.ptr (b1+1) 4 0)),(3,(.ptr (b2+11) 4 0)),(36,(vi (f.Odd.length:Int))),(37,(vi 0))]) (λs2=>[.blk (b2+11) 29 (vF f),.blk (b1+1) 29 [(vi 0),(vi 0),.nils,.nils]]) (.exit 2) (λy2=>[(2,(.ptr (b1+1) 4 0)),(3,(.ptr (b2+11) 4 0))]) (λy2=>[.blk (b2+11) 29 (vF f),.blk (b1+1) 29 [(vi 0),(vi 0),.nils,.nils]]) (EI V) H (λs2 e G H z h=>?_) λy2 e G H h=>?_
   ·unfold Z9.s1 at h;refine .tR 1 V H λb8 G H=>(.iV V (.na H λH=>(.then ?_)));refine .wh h V ?_ ?_<;>intro h
    ·refine .skip (.then (.inBlock (.tR 2 V H λb9 G H=>(.mV V (.aV V (.na H λH=>(.Z0v 13 V (by kernel_rfl) H λb10 G H B10=>(.ZA H 0 V V V V V (so (B10 0 _ V _ V)) V ?_))))))));refine .ld (vl Granule.cs f.Odd) H 0 V V V V V (so (B10 0 _ V _ V)) V (.mV V (.ZA H 0 V V V V V (so (B10 0 _ V _ V)) V (.ld (vl Granule.cs f.Odd) H 0 V V V V V (so (B10 0 _ V _ V)) V (.mV V ?_))));obtain ⟨x2,q2,h⟩:=bs h;exact (Z4m hce2 q2).elim
    refine .exit ?_;obtain rfl:=sj h;exact ⟨nofun,⟨V,EI V,H⟩⟩
   refine .tR 2 V H λb11 G H=>(.LV (vF f) H 0 V (.sV (vF f) H 1 V λG H=>(.na H λH=>(.ret ?_))));obtain rfl:=sj h;exact (Ends.H (xs:=[(.agg (vF f))]) (.inr V) H (.agg (cs:=(vF f)) 1 V V V V V V V .nil) (.one (.p V)))
  ·replace h:=Z5M hce2 h;obtain ⟨x3,q3,h⟩:=bs h;refine .Z5I (ys:=[(vl Granule.cs f.Odd)]) H rfl (Z0G q3) rfl (YG _) (λ_=>by kernel_rfl) rfl ?_;rintro _ _ G ⟨w1,rfl,rfl⟩ H;refine .Z5O (cs:=[(vi f.Period),(vi f.Count),(vl (cL Span.cs) f.Core),w1]) (by rcases (H.sl (k:=0) rfl).2 with ⟨rfl,_⟩|⟨_,rfl,_⟩<;>rfl) rfl (.alc (cs:=[(vi 0),(vi 0),.nils,.nils]) H rfl rfl λG H=>(.Z1y (off:=0) (cells':=[(vi f.Period),(vi f.Count),(vl (cL Span.cs) f.Core),w1]) H 0 rfl rfl rfl rfl rfl rfl rfl rfl rfl (λ_=>.inr ⟨11,rfl,by kernel_rfl,by decide⟩) λG H=>(.na H λH=>(.then (.tR 4 rfl H λb12 G H=>(.fV H 0 rfl (.lV H 0 rfl (.nV rfl ?_))))))));refine .mV V (.na H λH=>(.inBlock ?_));refine .lp h (λs3=>[(2,(.ptr (b1+1) 4 0)),(3,(.ptr (b2+11) 4 0)),(19,(vi (f.Core.length:Int))),(20,(vi 0))]) (λs3=>[.blk (b2+11) 29 [(vi f.Period),(vi f.Count),(vl (cL Span.cs) f.Core),w1],.sl w1 81 2 (x3.map Granule.cs) true,.blk (b1+1) 29 [(vi 0),(vi 0),.nils,.nils]]) (.exit 0) (λy3=>[(2,(.ptr (b1+1) 4 0)),(3,(.ptr (b2+11) 4 0))]) (λy3=>[.blk (b2+11) 29 [(vi f.Period),(vi f.Count),(vl (cL Span.cs) f.Core),w1],.sl w1 81 2 (x3.map Granule.cs) true,.blk (b1+1) 29 [(vi 0),(vi 0),.nils,.nils]]) (EI V) (H.erase 3) (λs3 e G H z h=>?_) λy3 e G H h=>?_
   ·unfold Z9.s2 at h;refine .tR 1 V H λb13 G H=>(.iV V (.na H λH=>(.then ?_)));refine .wh h V ?_ ?_<;>intro h
    ·refine .skip (.then (.inBlock (.tR 2 V H λb14 G H=>(.mV V (.aV V (.na H λH=>(.Z0v 11 V (by kernel_rfl) H λb15 G H B15=>(.ZA H 0 V V V V V (so (B15 0 _ V _ V)) V ?_))))))));refine .ld (vl (cL Span.cs) f.Core) H 0 V V V V V (so (B15 0 _ V _ V)) V (.mV V (.ZA H 0 V V V V V (so (B15 0 _ V _ V)) V (.ld (vl (cL Span.cs) f.Core) H 0 V V V V V (so (B15 0 _ V _ V)) V (.mV V ?_))));obtain ⟨x4,q4,h⟩:=bs h;exact (Z4m hce1 q4).elim
    refine .exit ?_;obtain rfl:=sj h;exact ⟨nofun,⟨V,EI V,H⟩⟩
   refine .then (.tR 4 V H λb16 G H=>(.fV H 0 V (.lV H 0 V (.lenSt (c:=Granule.cs) (xs:=x3) H 1 V V V nofun V (.mV V (.na H λH=>(.inBlock ?_)))))));obtain ⟨y4,hj4,h⟩:=bs h;obtain ⟨n4,hj4⟩:=Zu.1 hj4;refine .mono (Runs.loopO hj4 (λs4 e G=>∃ (w4:PV),Zd e [(2,(.ptr (b1+1) 4 0)),(3,(.ptr (b2+11) 4 0)),(36,(vi (x3.length:Int))),(37,(vi s4.1))]/\Hs G [.blk (b2+11) 29 [(vi f.Period),(vi f.Count),(vl (cL Span.cs) f.Core),w4],.sl w4 81 2 (s4.2.map Granule.cs) true,.blk (b1+1) 29 [(vi 0),(vi 0),.nils,.nils]]) (λy4 x e G=>∃ (w5:PV),x = .exit 2/\Zd e [(2,(.ptr (b1+1) 4 0)),(3,(.ptr (b2+11) 4 0))]/\Hs G [.blk (b2+11) 29 [(vi f.Period),(vi f.Count),(vl (cL Span.cs) f.Core),w5],.sl w5 81 2 (y4.map Granule.cs) true,.blk (b1+1) 29 [(vi 0),(vi 0),.nils,.nils]]) ⟨w1,EI V,H⟩ ?_) ?_
   ·intro s4 e G hI z h;obtain ⟨w4,he,H⟩:=hI;obtain ⟨e,rfl⟩:=he.ex;unfold Z9.s3 at h;refine .tR 1 V H λb17 G H=>(.iV V (.na H λH=>(.then ?_)));refine .wh h V ?_ ?_<;>intro h
    ·refine .skip (.then (.inBlock (.tR 2 V H λb18 G H=>(.mV V (.aV V (.na H λH=>(.Z0v 13 V (by kernel_rfl) H λb19 G H B19=>(.ZA H 0 V V V V V (so (B19 0 _ V _ V)) V ?_))))))));refine .ld w4 H 0 V V V V V (so (B19 0 _ V _ V)) V (.mV V (.ZA H 0 V V V V V (so (B19 0 _ V _ V)) V (.ld w4 H 0 V V V V V (so (B19 0 _ V _ V)) V (.mV V ?_))));obtain ⟨x5,q5,h⟩:=bs h;refine .Z2y H 1 V V V (at?_map q5) V V (λ_ id ho=>.inl ⟨B19 1 _ V id ho,nofun,(λ_=>by kernel_rfl)⟩) V ?_;intro id1 hv1;subst hv1;refine .Z2k (id:=id1) H 1 V V (by simp) V V V (λ_=>.inl ⟨B19 1 _ V _ (by rw [(V:((.buf id1 (s4.2.map Granule.cs).length 2):PV)=_)];rfl),nofun,(λ_=>by kernel_rfl)⟩) V ?_;refine .loadS (id:=id1) (j:=1) (w:=(.sl (x5.Ticks.map Span.cs))) H 1 V V (by simp) (at?_map q5) V (by simp) V V V (λ_=>.inl ⟨B19 1 _ V _ (by rw [(V:((.buf id1 (s4.2.map Granule.cs).length 2):PV)=_)];rfl),nofun,(λ_=>by kernel_rfl)⟩) V ?_;obtain ⟨x6,q6,h⟩:=bs h;refine .cV (Zr q6) V ?_;obtain ⟨x7,q7,h⟩:=bs h;refine .Z2y H 1 V V V (at?_map q7) V V (λ_ id ho=>.inl ⟨B19 1 _ V id ho,nofun,(λ_=>by kernel_rfl)⟩) V ?_;intro id2 hv2;refine .Z2k (id:=id2) H 1 V hv2 (by simp) V V V (λ_=>.inl ⟨B19 1 _ V _ (by rw [(hv2:((.buf id1 (s4.2.map Granule.cs).length 2):PV)=_)];rfl),nofun,(λ_=>by kernel_rfl)⟩) V (.storeSt (id:=id2) (j:=1) (zs:=[(.sl (x6.map Span.cs))]) (u:=x7) (u':=(Granule.mk x7.Index x6)) H 1 V hv2 (by simp) q7 V (by simp) V V V V V V (λ_=>.inl ⟨B19 1 _ V _ (by rw [(hv2:((.buf id1 (s4.2.map Granule.cs).length 2):PV)=_)];rfl),(λ_=>by kernel_rfl),nofun⟩) λG H=>(.na H λH=>(.Za 2 V H λb20 G H=>(.iV V (.mV V (.na H λH=>?_))))))
     obtain rfl:=sj h;exact ⟨V,(.buf id1 (s4.2.map Granule.cs).length 2),EI V,H⟩
    refine .exit ?_;obtain rfl:=sj h;exact ⟨nofun,⟨w4,V,EI V,H⟩⟩
   ·rintro x e G ⟨w6,rfl,he,H⟩;obtain ⟨e,rfl⟩:=he.ex;refine .tR 2 V H λb21 G H=>(.LV [(vi f.Period),(vi f.Count),(vl (cL Span.cs) f.Core),w6] H 0 V (.sV [(vi f.Period),(vi f.Count),(vl (cL Span.cs) f.Core),w6] H 2 V λG H=>(.na H λH=>(.ret ?_))));obtain rfl:=sj h;exact (Ends.H (xs:=[(.agg [(vi f.Period),(vi f.Count),(vl (cL Span.cs) f.Core),w6])]) (.inr V) H (.agg (cs:=[(vi f.Period),(vi f.Count),(vl (cL Span.cs) f.Core),w6]) 2 V V V V V V V .nil) (.one (.a (.cons (.v _) (.cons (.v _) (.cons (.v _) (.cons (.s 1 V) .nil)))))))
 ·replace h:=Z5M hce1 h;obtain ⟨x8,q8,h⟩:=bs h;refine .Z5I (ys:=[(vl (cL Span.cs) f.Core)]) H rfl (Z1k q8) rfl (YG _) (λ_=>by kernel_rfl) rfl ?_;rintro _ _ G ⟨w7,rfl,rfl⟩ H;refine .ZA H 2 V V V V V (so (B2 1 _ V _ V)) V (.ld (vl Granule.cs f.Odd) H 2 V V V V V (so (B2 1 _ V _ V)) V ?_)
  rcases Bool.eq_false_or_eq_true (f.Odd.isEmpty) with hce3|hce3
  ·replace h:=Z4L hce3 h;refine .Z5I (ys:=[(vl Granule.cs f.Odd)]) H rfl (Z6U hce3) rfl (YG _) (λ_=>by kernel_rfl) rfl ?_;rintro _ _ G ⟨rfl,rfl⟩ H;replace H:Has G _ _ [.sl w7 50 1 (x8.map (cL Span.cs)) true,.blk (b1+1) 29 [(vi 0),(vi 0),.nils,.nils],.blk (b1+0) 29 (vF f)]:=H;refine .Z5O (cs:=[(vi f.Period),(vi f.Count),w7,(vl Granule.cs f.Odd)]) (by rcases (H.sl (k:=0) rfl).2 with ⟨rfl,_⟩|⟨_,rfl,_⟩<;>rfl) rfl (.alc (cs:=[(vi 0),(vi 0),.nils,.nils]) H rfl rfl λG H=>(.Z1y (off:=0) (cells':=[(vi f.Period),(vi f.Count),w7,(vl Granule.cs f.Odd)]) H 0 rfl rfl rfl rfl rfl rfl rfl rfl rfl (λ_=>.inr ⟨11,rfl,by kernel_rfl,by decide⟩) λG H=>(.na H λH=>(.then (.tR 4 rfl H λb22 G H=>(.fV H 0 rfl (.lV H 0 rfl (.lenSt (c:=(cL Span.cs)) (xs:=x8) H 1 rfl rfl rfl nofun rfl ?_))))))));refine .mV V (.na H λH=>(.inBlock ?_));obtain ⟨y5,hj5,h⟩:=bs h;obtain ⟨n5,hj5⟩:=Zu.1 hj5;refine .mono (Runs.loopO hj5 (λs5 e G=>∃ (w10:PV),Zd e [(2,(.ptr (b1+1) 4 0)),(3,(.ptr (b2+11) 4 0)),(19,(vi (x8.length:Int))),(20,(vi s5.1))]/\Hs G [.blk (b2+11) 29 [(vi f.Period),(vi f.Count),w10,(vl Granule.cs f.Odd)],.sl w10 50 1 (s5.2.map (cL Span.cs)) true,.blk (b1+1) 29 [(vi 0),(vi 0),.nils,.nils]]) (λy5 x e G=>∃ (w11:PV),x = .exit 0/\Zd e [(2,(.ptr (b1+1) 4 0)),(3,(.ptr (b2+11) 4 0))]/\Hs G [.blk (b2+11) 29 [(vi f.Period),(vi f.Count),w11,(vl Granule.cs f.Odd)],.sl w11 50 1 (y5.map (cL Span.cs)) true,.blk (b1+1) 29 [(vi 0),(vi 0),.nils,.nils]]) ⟨w7,EI V,(H.erase 3)⟩ ?_) ?_
   ·intro s5 e G hI z h;obtain ⟨w10,he,H⟩:=hI;obtain ⟨e,rfl⟩:=he.ex;unfold Z9.s4 at h;refine .tR 1 V H λb23 G H=>(.iV V (.na H λH=>(.then ?_)));refine .wh h V ?_ ?_<;>intro h
    ·refine .skip (.then (.inBlock (.tR 2 V H λb24 G H=>(.mV V (.aV V (.na H λH=>(.Z0v 11 V (by kernel_rfl) H λb25 G H B25=>(.ZA H 0 V V V V V (so (B25 0 _ V _ V)) V ?_))))))));refine .ld w10 H 0 V V V V V (so (B25 0 _ V _ V)) V (.mV V (.ZA H 0 V V V V V (so (B25 0 _ V _ V)) V (.ld w10 H 0 V V V V V (so (B25 0 _ V _ V)) V (.mV V ?_))));obtain ⟨x9,q9,h⟩:=bs h;refine .Z2y H 1 V V V (at?_map q9) V V (λ_ id ho=>.inl ⟨B25 1 _ V id ho,nofun,(λ_=>by kernel_rfl)⟩) V ?_;intro id3 hv3;subst hv3;refine .loadS (id:=id3) (j:=0) (w:=(.sl (x9.map Span.cs))) H 1 V V (by simp) (at?_map q9) V (by simp) V V V (λ_=>.inl ⟨B25 1 _ V _ (by rw [(V:((.buf id3 (s5.2.map (cL Span.cs)).length 1):PV)=_)];rfl),nofun,(λ_=>by kernel_rfl)⟩) V ?_;obtain ⟨x10,q10,h⟩:=bs h;refine .cV (Zr q10) V ?_;obtain ⟨x11,q11,h⟩:=bs h;refine .Z2y H 1 V V V (at?_map q11) V V (λ_ id ho=>.inl ⟨B25 1 _ V id ho,nofun,(λ_=>by kernel_rfl)⟩) V ?_;intro id4 hv4;refine .storeSt (id:=id4) (j:=0) (zs:=[(.sl (x10.map Span.cs))]) (u:=x11) (u':=x10) H 1 V hv4 (by simp) q11 V (by simp) V V V V V V (λ_=>.inl ⟨B25 1 _ V _ (by rw [(hv4:((.buf id3 (s5.2.map (cL Span.cs)).length 1):PV)=_)];rfl),(λ_=>by kernel_rfl),nofun⟩) λG H=>(.na H λH=>(.Za 2 V H λb26 G H=>(.iV V (.mV V (.na H λH=>?_)))))
     obtain rfl:=sj h;exact ⟨V,(.buf id3 (s5.2.map (cL Span.cs)).length 1),EI V,H⟩
    refine .exit ?_;obtain rfl:=sj h;exact ⟨nofun,⟨w10,V,EI V,H⟩⟩
   ·rintro x e G ⟨w12,rfl,he,H⟩;obtain ⟨e,rfl⟩:=he.ex;refine .then (.tR 4 V H λb27 G H=>(.fV H 0 V (.lV H 0 V (.nV V (.mV V (.na H λH=>(.inBlock ?_)))))));refine .lp h (λs6=>[(2,(.ptr (b1+1) 4 0)),(3,(.ptr (b2+11) 4 0)),(36,(vi (f.Odd.length:Int))),(37,(vi 0))]) (λs6=>[.blk (b2+11) 29 [(vi f.Period),(vi f.Count),w12,(vl Granule.cs f.Odd)],.sl w12 50 1 (y5.map (cL Span.cs)) true,.blk (b1+1) 29 [(vi 0),(vi 0),.nils,.nils]]) (.exit 2) (λy6=>[(2,(.ptr (b1+1) 4 0)),(3,(.ptr (b2+11) 4 0))]) (λy6=>[.blk (b2+11) 29 [(vi f.Period),(vi f.Count),w12,(vl Granule.cs f.Odd)],.sl w12 50 1 (y5.map (cL Span.cs)) true,.blk (b1+1) 29 [(vi 0),(vi 0),.nils,.nils]]) (EI V) H (λs6 e G H z h=>?_) λy6 e G H h=>?_
    ·unfold Z9.s5 at h;refine .tR 1 V H λb28 G H=>(.iV V (.na H λH=>(.then ?_)));refine .wh h V ?_ ?_<;>intro h
     ·refine .skip (.then (.inBlock (.tR 2 V H λb29 G H=>(.mV V (.aV V (.na H λH=>(.Z0v 13 V (by kernel_rfl) H λb30 G H B30=>(.ZA H 0 V V V V V (so (B30 0 _ V _ V)) V ?_))))))));refine .ld (vl Granule.cs f.Odd) H 0 V V V V V (so (B30 0 _ V _ V)) V (.mV V (.ZA H 0 V V V V V (so (B30 0 _ V _ V)) V (.ld (vl Granule.cs f.Odd) H 0 V V V V V (so (B30 0 _ V _ V)) V (.mV V ?_))));obtain ⟨x12,q12,h⟩:=bs h;exact (Z4m hce3 q12).elim
     refine .exit ?_;obtain rfl:=sj h;exact ⟨nofun,⟨V,EI V,H⟩⟩
    refine .tR 2 V H λb31 G H=>(.LV [(vi f.Period),(vi f.Count),w12,(vl Granule.cs f.Odd)] H 0 V (.sV [(vi f.Period),(vi f.Count),w12,(vl Granule.cs f.Odd)] H 2 V λG H=>(.na H λH=>(.ret ?_))));obtain rfl:=sj h;exact (Ends.H (xs:=[(.agg [(vi f.Period),(vi f.Count),w12,(vl Granule.cs f.Odd)])]) (.inr V) H (.agg (cs:=[(vi f.Period),(vi f.Count),w12,(vl Granule.cs f.Odd)]) 2 V V V V V V V .nil) (.one (.a (.cons (.v _) (.cons (.v _) (.cons (.s 1 V) (.cons (.v _) .nil)))))))
  ·replace h:=Z5M hce3 h;obtain ⟨x13,q13,h⟩:=bs h;refine .Z5I (ys:=[(vl Granule.cs f.Odd)]) H rfl (Z0G q13) rfl (YG _) (λ_=>by kernel_rfl) rfl ?_;rintro _ _ G ⟨w13,rfl,rfl⟩ H;refine .Z5O (cs:=[(vi f.Period),(vi f.Count),w7,w13]) (by rcases (H.sl (k:=1) rfl).2 with ⟨rfl,_⟩|⟨_,rfl,_⟩<;>rcases (H.sl (k:=0) rfl).2 with ⟨rfl,_⟩|⟨_,rfl,_⟩<;>rfl) rfl (.alc (cs:=[(vi 0),(vi 0),.nils,.nils]) H rfl rfl λG H=>(.Z1y (off:=0) (cells':=[(vi f.Period),(vi f.Count),w7,w13]) H 0 rfl rfl rfl rfl rfl rfl rfl rfl rfl (λ_=>.inr ⟨11,rfl,by kernel_rfl,by decide⟩) λG H=>(.na H λH=>(.then (.tR 4 rfl H λb32 G H=>(.fV H 0 rfl (.lV H 0 rfl (.lenSt (c:=(cL Span.cs)) (xs:=x8) H 2 rfl rfl rfl nofun rfl ?_))))))));refine .mV V (.na H λH=>(.inBlock ?_));obtain ⟨y7,hj7,h⟩:=bs h;obtain ⟨n7,hj7⟩:=Zu.1 hj7;refine .mono (Runs.loopO hj7 (λs7 e G=>∃ (w16:PV),Zd e [(2,(.ptr (b1+1) 4 0)),(3,(.ptr (b2+11) 4 0)),(19,(vi (x8.length:Int))),(20,(vi s7.1))]/\Hs G [.blk (b2+11) 29 [(vi f.Period),(vi f.Count),w16,w13],.sl w13 81 2 (x13.map Granule.cs) true,.sl w16 50 1 (s7.2.map (cL Span.cs)) true,.blk (b1+1) 29 [(vi 0),(vi 0),.nils,.nils]]) (λy7 x e G=>∃ (w17:PV),x = .exit 0/\Zd e [(2,(.ptr (b1+1) 4 0)),(3,(.ptr (b2+11) 4 0))]/\Hs G [.blk (b2+11) 29 [(vi f.Period),(vi f.Count),w17,w13],.sl w13 81 2 (x13.map Granule.cs) true,.sl w17 50 1 (y7.map (cL Span.cs)) true,.blk (b1+1) 29 [(vi 0),(vi 0),.nils,.nils]]) ⟨w7,EI V,(H.erase 4)⟩ ?_) ?_
   ·intro s7 e G hI z h;obtain ⟨w16,he,H⟩:=hI;obtain ⟨e,rfl⟩:=he.ex;unfold Z9.s6 at h;refine .tR 1 V H λb33 G H=>(.iV V (.na H λH=>(.then ?_)));refine .wh h V ?_ ?_<;>intro h
    ·refine .skip (.then (.inBlock (.tR 2 V H λb34 G H=>(.mV V (.aV V (.na H λH=>(.Z0v 11 V (by kernel_rfl) H λb35 G H B35=>(.ZA H 0 V V V V V (so (B35 0 _ V _ V)) V ?_))))))));refine .ld w16 H 0 V V V V V (so (B35 0 _ V _ V)) V (.mV V (.ZA H 0 V V V V V (so (B35 0 _ V _ V)) V (.ld w16 H 0 V V V V V (so (B35 0 _ V _ V)) V (.mV V ?_))));obtain ⟨x14,q14,h⟩:=bs h;refine .Z2y H 2 V V V (at?_map q14) V V (λ_ id ho=>.inl ⟨B35 2 _ V id ho,nofun,(λ_=>by kernel_rfl)⟩) V ?_;intro id5 hv5;subst hv5;refine .loadS (id:=id5) (j:=0) (w:=(.sl (x14.map Span.cs))) H 2 V V (by simp) (at?_map q14) V (by simp) V V V (λ_=>.inl ⟨B35 2 _ V _ (by rw [(V:((.buf id5 (s7.2.map (cL Span.cs)).length 1):PV)=_)];rfl),nofun,(λ_=>by kernel_rfl)⟩) V ?_;obtain ⟨x15,q15,h⟩:=bs h;refine .cV (Zr q15) V ?_;obtain ⟨x16,q16,h⟩:=bs h;refine .Z2y H 2 V V V (at?_map q16) V V (λ_ id ho=>.inl ⟨B35 2 _ V id ho,nofun,(λ_=>by kernel_rfl)⟩) V ?_;intro id6 hv6;refine .storeSt (id:=id6) (j:=0) (zs:=[(.sl (x15.map Span.cs))]) (u:=x16) (u':=x15) H 2 V hv6 (by simp) q16 V (by simp) V V V V V V (λ_=>.inl ⟨B35 2 _ V _ (by rw [(hv6:((.buf id5 (s7.2.map (cL Span.cs)).length 1):PV)=_)];rfl),(λ_=>by kernel_rfl),nofun⟩) λG H=>(.na H λH=>(.Za 2 V H λb36 G H=>(.iV V (.mV V (.na H λH=>?_)))))
     obtain rfl:=sj h;exact ⟨V,(.buf id5 (s7.2.map (cL Span.cs)).length 1),EI V,H⟩
    refine .exit ?_;obtain rfl:=sj h;exact ⟨nofun,⟨w16,V,EI V,H⟩⟩
   ·rintro x e G ⟨w18,rfl,he,H⟩;obtain ⟨e,rfl⟩:=he.ex;refine .then (.tR 4 V H λb37 G H=>(.fV H 0 V (.lV H 0 V (.lenSt (c:=Granule.cs) (xs:=x13) H 1 V V V nofun V (.mV V (.na H λH=>(.inBlock ?_)))))));obtain ⟨y8,hj8,h⟩:=bs h;obtain ⟨n8,hj8⟩:=Zu.1 hj8;refine .mono (Runs.loopO hj8 (λs8 e G=>∃ (w21:PV),Zd e [(2,(.ptr (b1+1) 4 0)),(3,(.ptr (b2+11) 4 0)),(36,(vi (x13.length:Int))),(37,(vi s8.1))]/\Hs G [.blk (b2+11) 29 [(vi f.Period),(vi f.Count),w18,w21],.sl w21 81 2 (s8.2.map Granule.cs) true,.sl w18 50 1 (y7.map (cL Span.cs)) true,.blk (b1+1) 29 [(vi 0),(vi 0),.nils,.nils]]) (λy8 x e G=>∃ (w22:PV),x = .exit 2/\Zd e [(2,(.ptr (b1+1) 4 0)),(3,(.ptr (b2+11) 4 0))]/\Hs G [.blk (b2+11) 29 [(vi f.Period),(vi f.Count),w18,w22],.sl w22 81 2 (y8.map Granule.cs) true,.sl w18 50 1 (y7.map (cL Span.cs)) true,.blk (b1+1) 29 [(vi 0),(vi 0),.nils,.nils]]) ⟨w13,EI V,H⟩ ?_) ?_
    ·intro s8 e G hI z h;obtain ⟨w21,he,H⟩:=hI;obtain ⟨e,rfl⟩:=he.ex;unfold Z9.s7 at h;refine .tR 1 V H λb38 G H=>(.iV V (.na H λH=>(.then ?_)));refine .wh h V ?_ ?_<;>intro h
     ·refine .skip (.then (.inBlock (.tR 2 V H λb39 G H=>(.mV V (.aV V (.na H λH=>(.Z0v 13 V (by kernel_rfl) H λb40 G H B40=>(.ZA H 0 V V V V V (so (B40 0 _ V _ V)) V ?_))))))));refine .ld w21 H 0 V V V V V (so (B40 0 _ V _ V)) V (.mV V (.ZA H 0 V V V V V (so (B40 0 _ V _ V)) V (.ld w21 H 0 V V V V V (so (B40 0 _ V _ V)) V (.mV V ?_))));obtain ⟨x17,q17,h⟩:=bs h;refine .Z2y H 1 V V V (at?_map q17) V V (λ_ id ho=>.inl ⟨B40 1 _ V id ho,nofun,(λ_=>by kernel_rfl)⟩) V ?_;intro id7 hv7;subst hv7;refine .Z2k (id:=id7) H 1 V V (by simp) V V V (λ_=>.inl ⟨B40 1 _ V _ (by rw [(V:((.buf id7 (s8.2.map Granule.cs).length 2):PV)=_)];rfl),nofun,(λ_=>by kernel_rfl)⟩) V ?_;refine .loadS (id:=id7) (j:=1) (w:=(.sl (x17.Ticks.map Span.cs))) H 1 V V (by simp) (at?_map q17) V (by simp) V V V (λ_=>.inl ⟨B40 1 _ V _ (by rw [(V:((.buf id7 (s8.2.map Granule.cs).length 2):PV)=_)];rfl),nofun,(λ_=>by kernel_rfl)⟩) V ?_;obtain ⟨x18,q18,h⟩:=bs h;refine .cV (Zr q18) V ?_;obtain ⟨x19,q19,h⟩:=bs h;refine .Z2y H 1 V V V (at?_map q19) V V (λ_ id ho=>.inl ⟨B40 1 _ V id ho,nofun,(λ_=>by kernel_rfl)⟩) V ?_;intro id8 hv8;refine .Z2k (id:=id8) H 1 V hv8 (by simp) V V V (λ_=>.inl ⟨B40 1 _ V _ (by rw [(hv8:((.buf id7 (s8.2.map Granule.cs).length 2):PV)=_)];rfl),nofun,(λ_=>by kernel_rfl)⟩) V (.storeSt (id:=id8) (j:=1) (zs:=[(.sl (x18.map Span.cs))]) (u:=x19) (u':=(Granule.mk x19.Index x18)) H 1 V hv8 (by simp) q19 V (by simp) V V V V V V (λ_=>.inl ⟨B40 1 _ V _ (by rw [(hv8:((.buf id7 (s8.2.map Granule.cs).length 2):PV)=_)];rfl),(λ_=>by kernel_rfl),nofun⟩) λG H=>(.na H λH=>(.Za 2 V H λb41 G H=>(.iV V (.mV V (.na H λH=>?_))))))
      obtain rfl:=sj h;exact ⟨V,(.buf id7 (s8.2.map Granule.cs).length 2),EI V,H⟩
     refine .exit ?_;obtain rfl:=sj h;exact ⟨nofun,⟨w21,V,EI V,H⟩⟩
    ·rintro x e G ⟨w23,rfl,he,H⟩;obtain ⟨e,rfl⟩:=he.ex;refine .tR 2 V H λb42 G H=>(.LV [(vi f.Period),(vi f.Count),w18,w23] H 0 V (.sV [(vi f.Period),(vi f.Count),w18,w23] H 3 V λG H=>(.na H λH=>(.ret ?_))));obtain rfl:=sj h;exact (Ends.H (xs:=[(.agg [(vi f.Period),(vi f.Count),w18,w23])]) (.inr V) H (.agg (cs:=[(vi f.Period),(vi f.Count),w18,w23]) 3 V V V V V V V .nil) (.one (.a (.cons (.v _) (.cons (.v _) (.cons (.s 2 V) (.cons (.s 1 V) .nil)))))))
theorem Z5A {days:Int} {r:Int} (h:Z0a days=some r):Fn CX 17 [(vi days)] (vi r):=by
 refine Fn.go Tryd.func17 V λG H=>?_;unfold Z0a at h;refine .tR 1 V H λb1 G H=>(.aV V (.na H λH=>(.tR 9 V H λb2 G H=>(.mV V (.rem (m:=days) (m':=7) V V (by decide) V (.iV V ?_))))));obtain ⟨x1,q1,h⟩:=bs h;refine .cV (Z1A q1) V (.m1 (.tup [(vi x1.1),(vi x1.2)]) V V (.xV V (.xV V (.aV V (.aV V (.na H λH=>(.tR 3 V H λb3 G H=>(.mV V ?_))))))));refine .iV V (.aV V (.na H λH=>(.ret ?_)));obtain rfl:=sj h;exact Ends.eR V
end Go.Dn

namespace Go.Dn
open Go Go.Proofs
theorem oDisable (w:World):(callFunc 84 #[]).run Tryd.prog w = .ok (.value (.tuple #[])) w:=run_call_mark0 Tryd.func84 (by kernel_rfl) (by kernel_rfl) (by kernel_rfl) .disable (by kernel_rfl) w
theorem oEnable (w:World):(callFunc 86 #[]).run Tryd.prog w = .ok (.value (.tuple #[])) w:=run_call_mark0 Tryd.func86 (by kernel_rfl) (by kernel_rfl) (by kernel_rfl) .enable (by kernel_rfl) w
theorem oAcquire (a:Addr) (w:World):(callFunc 87 #[.pointer (some a)]).run Tryd.prog w = .ok (.value (.tuple #[])) w:=run_call_marked Tryd.func87 (by kernel_rfl) (by kernel_rfl) (by kernel_rfl) .acquire (by kernel_rfl) a w
theorem oRelease (a:Addr) (w:World):(callFunc 89 #[.pointer (some a)]).run Tryd.prog w = .ok (.value (.tuple #[])) w:=run_call_marked Tryd.func89 (by kernel_rfl) (by kernel_rfl) (by kernel_rfl) .releaseMerge (by kernel_rfl) a w
set_option maxRecDepth 100000 in
set_option maxHeartbeats 1600000 in
theorem oStore (a:Addr) (x:Value) (u:FrameMode) (w:World) (hc:w.cell? a=some x) (hz:w.frozen? a=false) :
  CallsD Tryd.prog 63 #[.pointer (some a),.bool true] u w λe u' w'=>u'=u/\(e = .returned (.tuple #[])/\w'=w.drew.setCell a (.int .u32 1)):=by
 have hc':w.drew.cell? a=some x:=by go_simp
 have hz':w.drew.frozen? a=false:=by go_simp
 have hst:=run_call_store (P:=Tryd.prog) Tryd.func77 (by kernel_rfl) (by kernel_rfl) (by kernel_rfl) (by kernel_rfl) (k:=.u32) (y:=1) hc' hz'
 go_enter_d Tryd.func63,Tryd.ntmps63
 go_wp2
 go_region_calls
 all_goals (go_end0;exact ⟨rfl,rfl⟩)
set_option maxRecDepth 100000 in
set_option maxHeartbeats 1600000 in
theorem oUnlock (a:Addr) (u:FrameMode) (w:World) (hc:w.cell? a=some (.int .i32 1)) (hz:w.frozen? a=false) :
  CallsD Tryd.prog 62 #[.pointer (some a)] u w λe u' w'=>u'=u/\(e = .returned (.tuple #[])/\w'=w.setCell a (.int .i32 0)):=by
 have hd:=oDisable
 have he:=oEnable
 have hr:=oRelease
 have hadd:=run_call_add (P:=Tryd.prog) Tryd.func90 (by kernel_rfl) (by kernel_rfl) (by kernel_rfl) .i32 (by kernel_rfl) (y:=-1) (s:=0) hc hz (by simp [go_sem];rfl)
 have hcv:=run_convert_to_unsafe (P:=Tryd.prog) (src:=130) (dst:=134) Tryd.underlying130 Tryd.underlying134 (by kernel_rfl) hc
 go_enter_d Tryd.func62,Tryd.ntmps62
 go_wp2
 go_end0
 go_wp2
 go_end0
 exact ⟨rfl,rfl⟩
set_option maxRecDepth 100000 in
set_option maxHeartbeats 1600000 in
theorem oLock (a:Addr) (w:World) (hc:w.cell? a=some (.int .i32 0)) (hz:w.frozen? a=false) :
  Calls Tryd.prog 61 #[.pointer (some a)] w λe w'=>e = .returned (.tuple #[])/\w'=w.setCell a (.int .i32 1):=by
 have hd:=oDisable
 have he:=oEnable
 have ha:=oAcquire
 have hcas:=run_call_cas_hit (P:=Tryd.prog) Tryd.func85 (by kernel_rfl) (by kernel_rfl) (by kernel_rfl) .i32 (by kernel_rfl) (y:=1) hc hz
 have hc':(w.setCell a (.int .i32 1)).cell? a=some (.int .i32 1):=World.cell?_setCell_same w a _ hc
 have hcv:=run_convert_to_unsafe (P:=Tryd.prog) (src:=130) (dst:=134) Tryd.underlying130 Tryd.underlying134 (by kernel_rfl) hc'
 go_enter Tryd.func61,Tryd.ntmps61
 go_wp2
 first|go_end0|(simp only [Exit.inBlock,Exit.then];refine bodyPost_ret (results_none rfl _ _ _) rfl ?_)|refine bodyPost_ret (results_none rfl _ _ _) rfl ?_
 go_wp2
 go_end0
 exact ⟨rfl,rfl⟩
set_option maxRecDepth 100000 in
set_option maxHeartbeats 1600000 in
theorem oDone (a:Addr) (d:Int) (hd:¬ d=0) (fv:Value) (w:World) (h0:w.cell? a=some (.int .u32 d)) :
  Calls Tryd.prog 20 #[.pointer (some a),fv] w λe w'=>e = .returned (.tuple #[])/\w'=w:=by
 have hl:=run_call_load (P:=Tryd.prog) Tryd.func60 (by kernel_rfl) (by kernel_rfl) (by kernel_rfl) .u32 (by kernel_rfl) h0
 have hnot:∀ (x:Bool) (w:World),(Op.unary .not (.bool x)).run Tryd.prog w = .ok (.bool (!x)) w:=λ_ _=>rfl
 have hd':(d != 0)=true:=by simp [hd]
 go_enter Tryd.func20,Tryd.ntmps20
 go_wp2
 go_end0
 exact ⟨rfl,rfl⟩
theorem oLoad (a:Addr) (n:Int) (w:World) (h0:w.cell? a=some (.int .i64 n)) :
  Calls Tryd.prog 27 #[.pointer (some a)] w λe w'=>e = .returned (.int .i64 n)/\w'=w:=by
 have hl:=run_call_load (P:=Tryd.prog) Tryd.func49 (by kernel_rfl) (by kernel_rfl) (by kernel_rfl) .i64 (by kernel_rfl) h0
 go_enter Tryd.func27,Tryd.ntmps27
 go_wp2
 go_ret
 exact ⟨rfl,rfl⟩
theorem oAdd (a:Addr) (n d:Int) (w:World) (h0:w.cell? a=some (.int .i64 n)) (hz:w.frozen? a=false) :
  Calls Tryd.prog 23 #[.pointer (some a),.int .i64 d] w λe w'=>e = .returned (.int .i64 (IntKind.i64.wrap (n+d)))/\w'=w.setCell a (.int .i64 (IntKind.i64.wrap (n+d))):=by
 have hadd:=run_call_add (P:=Tryd.prog) Tryd.func44 (by kernel_rfl) (by kernel_rfl) (by kernel_rfl) .i64 (by kernel_rfl) (y:=d) (s:=IntKind.i64.wrap (n+d)) h0 hz (by simp [go_sem])
 go_enter Tryd.func23,Tryd.ntmps23
 go_wp2
 go_ret
 have hw:(n+d+9223372036854775808) % 18446744073709551616-9223372036854775808=IntKind.i64.wrap (n+d):=by
  simp [IntKind.wrap,IntKind.signed,IntKind.bits]
  split<;>omega
 rw [hw]
 exact ⟨rfl,rfl⟩
end Go.Dn

namespace Go.Dn
open Go Go.Proofs
set_option maxRecDepth 100000 in
set_option maxHeartbeats 1600000 in
theorem oSlow (b off:Nat) (g:FuncId) (caps:Array Value) (R:World->Prop) (w:World)
  (h0:w.cell? ⟨b,off,none⟩=some (.int .u32 0)) (h1:w.cell? ⟨b,off+1,none⟩=some (.int .i32 0))
  (f0:w.frozen? ⟨b,off,none⟩=false) (f1:w.frozen? ⟨b,off+1,none⟩=false)
  (hcf:(callFunc g caps).run Tryd.prog (w.setCell ⟨b,off+1,none⟩ (.int .i32 1)) = .ok (.enter g caps) (w.setCell ⟨b,off+1,none⟩ (.int .i32 1)))
  (hcl:Calls Tryd.prog g caps (w.setCell ⟨b,off+1,none⟩ (.int .i32 1)) λen w2=>∃ v,en = .returned v/\R w2 /\
   w2.cell? ⟨b,off,none⟩=some (.int .u32 0)/\w2.cell? ⟨b,off+1,none⟩=some (.int .i32 1)/\w2.frozen? ⟨b,off,none⟩=false/\w2.frozen? ⟨b,off+1,none⟩=false) :
  Calls Tryd.prog 41 #[.pointer (some ⟨b,off,none⟩),.func (.func g) #[] caps] w λe w'=>e = .returned (.tuple #[]) /\
   ∃ w2,R w2/\w'=(w2.drew.setCell ⟨b,off,none⟩ (.int .u32 1)).setCell ⟨b,off+1,none⟩ (.int .i32 0):=by
 have hl:=run_call_load (P:=Tryd.prog) Tryd.func60 (by kernel_rfl) (by kernel_rfl) (by kernel_rfl) .u32 (by kernel_rfl) (w:=w.setCell ⟨b,off+1,none⟩ (.int .i32 1)) (a:=⟨b,off,none⟩) (x:=0) ((World.cell?_setCell_other _ ⟨b,off+1,none⟩ ⟨b,off,none⟩ _ (by simp)).trans h0)
 have hnot:∀ (x:Bool) (w:World),(Op.unary .not (.bool x)).run Tryd.prog w = .ok (.bool (!x)) w:=λ_ _=>rfl
 go_enter_defers Tryd.func41,Tryd.ntmps41
 go_wp2_with (first|(go_at_call 61;refine (oLock ⟨b,off+1,none⟩ _ (by go_simp) (by go_simp)).mono ?_;rintro e w' ⟨rfl,rfl⟩)|(go_at_call 40;go_in))
 refine hcl.mono ?_
 rintro e w2 ⟨v,rfl,hR,c0,c1,z0,z1⟩
 go_wp2
 refine leaves_cons (f:=63) (args:=#[.pointer (some ⟨b,off,none⟩),.bool true]) (by simp) (by simp [go_sem]) ?_
 refine (oStore ⟨b,off,none⟩ (.int .u32 0) .returning _ c0 z0).mono ?_
 rintro e u' w'' ⟨rfl,rfl,rfl⟩
 refine leaves_cons (f:=62) (args:=#[.pointer (some ⟨b,off+1,none⟩)]) (by simp [settle]) (by simp [go_sem]) ?_
 refine (oUnlock ⟨b,off+1,none⟩ _ _ ?_ (by simp [z1])).mono ?_
 ·refine (World.cell?_setCell_other _ ⟨b,off,none⟩ ⟨b,off+1,none⟩ _ (by simp)).trans ?_
  rw [World.cell?_drew];exact c1
 rintro e u' w'' ⟨rfl,rfl,rfl⟩
 simp [Leaves,settle,results,Tryd.results41]
 exact ⟨_,hR,rfl⟩
set_option maxRecDepth 100000 in
set_option maxHeartbeats 1600000 in
theorem oFirst (b off:Nat) (g:FuncId) (caps:Array Value) (R:World->Prop) (w:World)
  (h0:w.cell? ⟨b,off,none⟩=some (.int .u32 0)) (h1:w.cell? ⟨b,off+1,none⟩=some (.int .i32 0))
  (f0:w.frozen? ⟨b,off,none⟩=false) (f1:w.frozen? ⟨b,off+1,none⟩=false)
  (hcf:(callFunc g caps).run Tryd.prog (w.setCell ⟨b,off+1,none⟩ (.int .i32 1)) = .ok (.enter g caps) (w.setCell ⟨b,off+1,none⟩ (.int .i32 1)))
  (hcl:Calls Tryd.prog g caps (w.setCell ⟨b,off+1,none⟩ (.int .i32 1)) λen w2=>∃ v,en = .returned v/\R w2 /\
   w2.cell? ⟨b,off,none⟩=some (.int .u32 0)/\w2.cell? ⟨b,off+1,none⟩=some (.int .i32 1)/\w2.frozen? ⟨b,off,none⟩=false/\w2.frozen? ⟨b,off+1,none⟩=false) :
  Calls Tryd.prog 20 #[.pointer (some ⟨b,off,none⟩),.func (.func g) #[] caps] w λe w'=>e = .returned (.tuple #[]) /\
   ∃ w2,R w2/\w'=(w2.drew.setCell ⟨b,off,none⟩ (.int .u32 1)).setCell ⟨b,off+1,none⟩ (.int .i32 0):=by
 have hl:=run_call_load (P:=Tryd.prog) Tryd.func60 (by kernel_rfl) (by kernel_rfl) (by kernel_rfl) .u32 (by kernel_rfl) h0
 have hnot:∀ (x:Bool) (w:World),(Op.unary .not (.bool x)).run Tryd.prog w = .ok (.bool (!x)) w:=λ_ _=>rfl
 have hs:=oSlow b off g caps R w h0 h1 f0 f1 hcf hcl
 clear hcl hcf
 go_enter Tryd.func20,Tryd.ntmps20
 go_wp2_with (first|(go_at_call 41;refine hs.mono ?_;rintro e w' ⟨rfl,w2,hR,rfl⟩)|(go_at_call 40;go_in))
 go_end0
 exact ⟨rfl,w2,hR,rfl⟩
end Go.Dn

namespace Go.Dn
open Go Go.Proofs
variable {X:Ctx} {s:St} {P:Program}
theorem Z68 {w:World} {g o:Nat} {cs:Array Value} {el:TypeId} {fr:Nat×Nat} {u:Value} (h:w.heap[g]? = some (.cells cs el fr)) (ho:o<cs.size) :
  w.setRow g (cs.toList.take o++[u]++cs.toList.drop (o+1)).toArray=w.setCell ⟨g,o,none⟩ u:=by
 have hc:(cs.toList.take o++[u]++cs.toList.drop (o+1)).toArray=cs.setIfInBounds o u:=by
  apply Array.toList_inj.1;simp [Ys,ho]
 rw [hc]
 unfold World.setRow World.setCell
 congr 1
 apply Array.ext_getElem?
 intro i
 simp only [Array.getElem?_modify]
 split
 ·rename_i hi;subst hi;simp [h]
 ·rfl
theorem Z1u (hi:Inv s) {id ver o k:Nat} {v:Value} {t:TypeId} {κ:IntKind} {n:Int} (hp:PVR s (.ptr id ver o) v) (h:Z05 P s.G t (.ptr id ver (o+k))=some (.v (.int κ n))) :
  ∃ b,v = .pointer (some ⟨b,o,none⟩)/\s.w.cell? ⟨b,o+k,none⟩=some (.int κ n):=by
 simp only [Z05] at h
 split at h
 ·rename_i el cells lv hb
  split at h
  ·rename_i hver;cases hp with
   | ptr hbk hv ho hk=>
    have hvv:=hk (by simp [Heap.ver,hb,hver])
    subst hvv
    split at h
    ·split at h<;>simp at h
    ·obtain ⟨u,h1,h2,_⟩:=Z2V hi hb _ _ h;exact ⟨_,rfl,by rw [h1,Z0c h2]⟩
    ·simp at h
  ·simp at h
 ·simp at h
theorem Z1z (hi:Inv s) {id ver o k:Nat} {v:Value} {t:TypeId} {κ:IntKind} {m:Int} {G':Heap} (hp:PVR s (.ptr id ver o) v) (h:Z0N P s.G t (.v (.int κ m)) (.ptr id ver (o+k))=some G') :
  ∃ b,v = .pointer (some ⟨b,o,none⟩)/\(∀ j,s.w.frozen? ⟨b,j,none⟩=false)/\∃ D',Inv ⟨s.w.setCell ⟨b,o+k,none⟩ (.int κ m),s.Y,G',D'⟩/\Ev s ⟨s.w.setCell ⟨b,o+k,none⟩ (.int κ m),s.Y,G',D'⟩:=by
 simp only [Z0N] at h
 split at h
 ·rename_i el cells hb
  split at h
  ·rename_i hver;cases hp with
   | ptr hbk hv ho hk=>
    have hvv:=hk (by simp [Heap.ver,hb,hver])
    subst hvv
    split at h
    ·rename_i k' ys hs hc
     split at h
     ·rename_i hle;simp only [YA] at h;subst h;simp only [PV.cells,YA] at hc;subst hc;obtain ⟨hl1,hle⟩:=hle;simp only [YX,Ym,Yv] at hl1;subst hl1;obtain ⟨cs,hcs,hcl⟩:=Z3T hi hb;have hput:=Z2j hi hb (nx_of hi (by rw [hb];simp)) [.v (.int κ m)] [.int κ m] (o+k) rfl (by simpa using hle)
       (λj y hj=>by
        cases j with
        | zero=>simp at hj;subst hj;exact ⟨_,rfl,.v (.int _ _),rfl⟩
        | succ j=>simp at hj) hcs
      have hw:=Z68 (u:=.int κ m) (o:=o+k) hcs (by omega)
      simp only [YX,Ym,Yv] at hput;rw [hw] at hput;refine ⟨_,rfl,λj=>?_,_,hput.inv hi,hput.ev hi⟩;simp [World.frozen?,hcs]
     ·simp at h
    ·simp at h
  ·simp at h
 ·simp at h
theorem drew_ev:Ev s ⟨s.w.drew,s.Y,s.G,s.D⟩ :=
 ⟨rfl,YG _,λ_ _ _=>rfl,(Ev.refl s).live,(Ev.refl s).blk,(Ev.refl s).loop,(Ev.refl s).map,rfl,rfl,rfl⟩
theorem drew_inv (hi:Inv s):Inv ⟨s.w.drew,s.Y,s.G,s.D⟩ where
 ent:=λid=>by
  have h:=hi.ent id;show EntOK _ id (s.G.ent id)
  cases he:s.G.ent id with
  | none=>trivial
  | blk el cells lv=>
   rw [he] at h;obtain ⟨cs,fr,h1,h2,h3,h4⟩:=h;exact ⟨cs,fr,h1,h2,h3,λj x hj=>by
    obtain ⟨u,a,b,c⟩:=h4 j x hj;exact ⟨u,a,drew_ev.pvr b,c⟩⟩
  | loop fn e n ps as_ bo st pend=>
   rw [he] at h;obtain ⟨fn',tmps,defers,h1,h2,h3⟩:=h;exact ⟨fn',tmps,defers,h1,h2,λt=>drew_ev.pvr (h3 t)⟩
  | map kv=>
   rw [he] at h;exact h
 inj:=hi.inj
 notY:=hi.notY
 fz:=hi.fz
 nx:=hi.nx
 Ylt:=hi.Ylt
def libPrim (f:FuncId):Option Prim:=if f=20 then some (.once 62 21 0 1) else if f=23 then some (.add 2 0) else if f=27 then some (.load 2 .i64 0) else none
theorem Z5S {f : FuncId} {fn : Func} {vs : Array Value} {w : World} (hfn : Tryd.prog.funcs[f]? = some fn) (hb : fn.body.isSome = true) (hn : (fn.name == "runtime.NumGoroutine") = false) :
  (callFunc f vs).run Tryd.prog w = .ok (.enter f vs) w:=by
 obtain ⟨c,hb⟩:=Option.isSome_iff_exists.1 hb
 have hp:(program).run Tryd.prog w = .ok Tryd.prog w:=rfl
 simp only [callFunc,Sem.run_bind,hp,Result.andThen_ok,hfn,hn,hb]
 simp
theorem args1 {x:PV} {vs:Array Value} (h:PVRs s [x] vs):∃ v,vs = #[v]/\PVR s x v:=by
 obtain ⟨h1,h2⟩:=h
 refine ⟨vs.getD 0 Go.undef,?_,h2 0 x rfl⟩
 apply Array.ext
 ·simpa using h1.symm
 ·intro i a b;have:i=0:=by simp at b;omega
  subst this;simp [Array.getD,a]
theorem args2 {x y:PV} {vs:Array Value} (h:PVRs s [x,y] vs):∃ u v,vs = #[u,v]/\PVR s x u/\PVR s y v:=by
 obtain ⟨h1,h2⟩:=h
 refine ⟨vs.getD 0 Go.undef,vs.getD 1 Go.undef,?_,h2 0 x rfl,h2 1 y rfl⟩
 apply Array.ext
 ·simpa using h1.symm
 ·intro i a b;have:i=0\/i=1:=by simp at b;omega
  rcases this with rfl|rfl<;>simp [Array.getD,a]
theorem Z4D {a:PV} {k:Nat} {t:TypeId} {G:Heap} {x:PV} (h:Z05 P G t (onward a k)=some x):∃ id ver o,a = .ptr id ver o:=by
 cases a<;>simp [onward,Z05] at h
 exact ⟨_,_,_,rfl⟩
theorem Z1g {b b' o:Nat} (h:Value.pointer (some ⟨b,o,none⟩)=Value.pointer (some ⟨b',o,none⟩)):b'=b:=by
 simp at h
 exact h.symm
theorem once_sound (hP:X.P=Tryd.prog) {call:ZK} (hcall:Z17 X call) {s:St} {args:List PV} {vs:Array Value} {r:PV} {G':Heap} (hi:Inv s) (hG:Zg X s) (hv:PVRs s args vs)
  (h:Z0B X.P call s.G (.once 62 21 0 1) args=some (r,G')):Calls Tryd.prog 20 vs s.w λen w'=>∃ v,en = .returned v/\Post s r G' v w':=by
 rcases args with _|⟨a,_|⟨c,_|⟨z,rest⟩⟩⟩<;>try (simp [Z0B] at h;done)
 cases c<;>try (simp [Z0B] at h;done)
 rename_i g first caps
 cases first with
 | cons y ys=>simp [Z0B] at h
 | nil=>
  simp only [Z0B] at h
  split at h
  ·rename_i n e0;obtain ⟨id,ver,o,rfl⟩:=Z4D e0;obtain ⟨u,cv,rfl,ha,hc⟩:=args2 hv;simp only [onward] at e0 h;obtain ⟨b,rfl,c0⟩:=Z1u hi ha e0
   cases hc with
   | @clo _ _ _ fv cv hf hl h1 h2=>
    obtain rfl:fv = #[]:=Array.size_eq_zero_iff.1 hf.symm
    split at h
    ·rename_i hn;subst hn
     split at h
     ·rename_i e1;obtain ⟨b1,q1,c1⟩:=Z1u hi ha e1;obtain rfl:=Z1g q1;simp only [Y9] at h;obtain ⟨G1,hs1,⟨r1,G2⟩,hcl,h⟩:=h
      split at h
      ·rename_i e3 e4;simp only [Y9,Y3,Y5] at h;obtain ⟨G3,hs3,G4,hs4,rfl,rfl⟩:=h;obtain ⟨b2,q2,fz,D1,hi1,ev1⟩:=Z1z hi ha hs1;obtain rfl:=Z1g q2;obtain ⟨g1,g2⟩:=hcall (.fn g) caps r1 G2 _ hcl hi1 (hG.mono ev1) cv ⟨hl,λi x hx=>ev1.pvr (h2 i x hx)⟩;rw [hP] at g1 g2;have key:=oFirst b2 o g cv (λw2=>∃ D2,Inv ⟨w2,s.Y,G2,D2⟩/\Ev ⟨s.w.setCell ⟨b2,o+1,none⟩ (.int .i32 1),s.Y,G1,D1⟩ ⟨w2,s.Y,G2,D2⟩) s.w c0 c1 (fz _) (fz _) g1 (g2.mono λen w2 ⟨v,hv2,D2,hi2,ev2,_⟩=>by
        have ha2:=ev2.pvr (ev1.pvr ha);obtain ⟨b3,q3,c3⟩:=Z1u hi2 ha2 e3;obtain rfl:=Z1g q3;obtain ⟨b4,q4,c4⟩:=Z1u hi2 ha2 e4;obtain rfl:=Z1g q4;obtain ⟨b5,q5,fz5,_⟩:=Z1z hi2 ha2 hs3;obtain rfl:=Z1g q5;exact ⟨v,hv2,⟨D2,hi2,ev2⟩,c3,c4,fz5 _,fz5 _⟩)
       refine key.mono ?_;rintro e w' ⟨rfl,w2,⟨D2,hi2,ev2⟩,rfl⟩;have hid:=drew_inv hi2;have evd:=drew_ev (s:=⟨w2,s.Y,G2,D2⟩);have ha3:=evd.pvr (ev2.pvr (ev1.pvr ha));obtain ⟨b3,q3,_,D3,hi3,ev3⟩:=Z1z hid ha3 hs3;obtain rfl:=Z1g q3;obtain ⟨b4,q4,_,D4,hi4,ev4⟩:=Z1z hi3 (ev3.pvr ha3) hs4;obtain rfl:=Z1g q4;exact ⟨_,rfl,D4,hi4,ev1.trans (ev2.trans (evd.trans (ev3.trans ev4))),.tup rfl (λi x hx=>by simp at hx)⟩
      ·cases h
     ·cases h
    ·rename_i hn;simp only [YA,Y5] at h;obtain ⟨rfl,rfl⟩:=h;refine (oDone ⟨b,o,none⟩ n hn _ s.w c0).mono ?_;rintro e w' ⟨rfl,rfl⟩;exact ⟨_,rfl,s.D,hi,Ev.refl s,.tup rfl (λi x hx=>by simp at hx)⟩
  ·cases h
theorem add_sound (hP:X.P=Tryd.prog) {call:ZK} {s:St} {args:List PV} {vs:Array Value} {r:PV} {G':Heap} (hi:Inv s) (hv:PVRs s args vs)
  (h:Z0B X.P call s.G (.add 2 0) args=some (r,G')):Calls Tryd.prog 23 vs s.w λen w'=>∃ v,en = .returned v/\Post s r G' v w':=by
 unfold Z0B at h
 split at h
 ·rename_i hp;cases hp
 ·rename_i t off a d hp;cases hp
  split at h
  ·rename_i n e0;obtain ⟨id,ver,o,rfl⟩:=Z4D e0;obtain ⟨u,x,rfl,ha,hd⟩:=args2 hv;obtain rfl:=Z0c hd;simp only [onward] at e0 h;obtain ⟨b,rfl,c0⟩:=Z1u hi ha e0;simp only [Y3,Y5] at h;obtain ⟨G1,hs,rfl,rfl⟩:=h;obtain ⟨b1,q1,fz,D1,hi1,ev1⟩:=Z1z hi ha hs;obtain rfl:=Z1g q1;refine (oAdd ⟨b1,o,none⟩ n d s.w c0 (fz _)).mono ?_;rintro e w' ⟨rfl,rfl⟩;exact ⟨_,rfl,D1,hi1,ev1,.v (.int _ _)⟩
  ·cases h
 ·rename_i hp;cases hp
 ·cases h
theorem load_sound (hP:X.P=Tryd.prog) {call:ZK} {s:St} {args:List PV} {vs:Array Value} {r:PV} {G':Heap} (hi:Inv s) (hv:PVRs s args vs)
  (h:Z0B X.P call s.G (.load 2 .i64 0) args=some (r,G')):Calls Tryd.prog 27 vs s.w λen w'=>∃ v,en = .returned v/\Post s r G' v w':=by
 unfold Z0B at h
 split at h
 ·rename_i t k off a hp;cases hp
  split at h
  ·rename_i k n e0
   split at h
   ·rename_i hk;subst hk;obtain ⟨id,ver,o,rfl⟩:=Z4D e0;obtain ⟨u,rfl,ha⟩:=args1 hv;simp only [onward] at e0;obtain ⟨b,rfl,c0⟩:=Z1u hi ha e0;simp only [YA,Y5] at h;obtain ⟨rfl,rfl⟩:=h;refine (oLoad ⟨b,o,none⟩ n s.w c0).mono ?_;rintro e w' ⟨rfl,rfl⟩;exact ⟨_,rfl,s.D,hi,Ev.refl s,.v (.int _ _)⟩
   ·cases h
  ·cases h
 ·rename_i hp;cases hp
 ·rename_i hp;cases hp
 ·cases h
theorem lib_sound (hP:X.P=Tryd.prog) (hq:X.prim=libPrim):Z5B X:=by
 intro f p hf call hcall htame s args vs r G' hi hG hv h
 rw [hq] at hf
 unfold libPrim at hf
 split at hf
 ·rename_i he;subst he;cases hf;exact ⟨by rw [hP];exact Z5S Tryd.func20 rfl rfl,by rw [hP];exact once_sound hP hcall hi hG hv h⟩
 ·split at hf
  ·rename_i he;subst he;cases hf;exact ⟨by rw [hP];exact Z5S Tryd.func23 rfl rfl,by rw [hP];exact add_sound hP hi hv h⟩
  ·split at hf
   ·rename_i he;subst he;cases hf;exact ⟨by rw [hP];exact Z5S Tryd.func27 rfl rfl,by rw [hP];exact load_sound hP hi hv h⟩
   ·cases hf
end Go.Dn

namespace Go.Dn
open Go Go.Proofs
def ownZ (f:FuncId):Bool:=f==3||f==4||f==5||f==6||f==7||f==10||f==13||f==14||f==20||f==21||f==23||f==27
def opnZ (f:FuncId):Bool:=f==7||f==10||f==13||f==20||f==21||f==23||f==27
def keepZ (f:FuncId):Bool:=f==10||f==13||f==20||f==21||f==23||f==27
noncomputable def CZ:Ctx:={ P:=Tryd.prog,glob:=CX.glob,intr:=λf args=>if ownZ f then none else Z48 CX f args,opn:=opnZ,keep:=keepZ,prim:=libPrim }
theorem lift {f:FuncId} {args:List PV} {r:PV} (hs:ownZ f=false) (h:Fn CX f args r) (hk:CZ.keep f=false) (ho:CZ.opn f=false):Fn CZ f args r:=by
 refine Fn.intr ?_ h.pure hk ho
 show (if ownZ f then none else Z48 CX f args)=some r
 rw [hs]
 exact liftI_of h
theorem cz_ok:CtxOK CZ:=by
 refine ⟨Z4T,λf args r h s hi hG vs hv hp=>?_,lib_sound rfl rfl⟩
 have h:(if ownZ f then none else Z48 CX f args)=some r:=h
 split at h
 ·cases h
 ·have hF:=liftI_fn h;obtain ⟨k,hk⟩:=Zz.1 (hF.call s.G);exact Z3J cx_ok k (.fn f) args r s.G s hk hi hG vs hv
end Go.Dn

namespace Go.Dn
open Go
variable {X:Ctx} {n:Nat} {dr:Bool} {ops:Array Oper} {base i:Nat} {l:List Oper} {e:Env} {G G':Heap} {K:Env->Heap->Prop} {d:Nat} {t t1:TypeId} {p:String} {af:Array Edge} {lo hi:Nat} {L:List Res}
theorem prim_call {f:FuncId} {q:Prim} {args:List PV} {r:PV} (hq:X.prim f=some q) (hi:X.intr f args=none) (hk:X.keep f=true) (ho:X.opn f=true) (hfr:X.fresh f=false) (h:Z0B X.P (ZT X) G q args=some (r,G')):ZT X (.fn f) args G=some (r,G') :=
 Z0L (lf:=0) (by simp only [Z1i,hi,hk,if_true,ho,hfr,Y07,YF,if_false,Zp,hq,h])
theorem Ops.callPr {f:FuncId} {q:Prim} {args:Array Operand} {ts:Array TypeId} {ys:List PV} {r:PV} (ha:ZC X e args.toList=some ys) (hq:X.prim f=some q) (hf:(X.intr f ys,X.keep f,X.opn f,X.fresh f)=(none,true,true,false)) (h:Z0B X.P (ZT X) G q ys=some (r,G'))
  (hdr:dr=true->Z1C (Region.before ops) ops i=true) (hd:Nat.blt d n=true) (hk:Ops X n dr ops base (i+1) l (set e d r) G' K) :
  Ops X n dr ops base i (⟨some d,.call { callee:=.value (.func f),args:=args,argTypes:=ts },t,p,af,none⟩::l) e G K:=by
 simp only [Y5] at hf
 obtain ⟨f1,f2,f3,f4⟩:=hf
 exact .plain (x:=r) (G1:=G') (by simp only [Z1,ZO,ha,Z0,prim_call hq f1 f2 f3 f4 h]) (λh=>Z3m (hdr h)) hd hk
theorem prim_load {P:Program} {call:ZK} {id ver off:Nat} {te:TypeId} {cells:List PV} {m:Int} (H:Has G lo hi L) (k:Nat) (hk:L[k]? = some (.blk id te cells)) (hv:cells.length=ver) (hg:tagg P t=some false) (hc:cells[off]? = some (.v (.int .i64 m))) :
  Z0B P call G (.load t .i64 0) [.ptr id ver off]=some (.v (.int .i64 m),G):=by
 simp only [Z0B,onward,Y0A,Z05,H.blk hk,hv,if_true,hg,hc]
theorem prim_add {P:Program} {call:ZK} {id ver off:Nat} {te:TypeId} {cells cells':List PV} {m dl:Int} (H:Has G lo hi L) (k:Nat) (hk:L[k]? = some (.blk id te cells)) (hv:cells.length=ver) (hg:tagg P t=some false) (hs:tsize P t=some 1) (hc:cells[off]? = some (.v (.int .i64 m)))
  (hc':splice cells off [.v (.int .i64 (IntKind.i64.wrap (m+dl)))]=cells') :
  ∃ G',Z0B P call G (.add t 0) [.ptr id ver off,.v (.int .i64 dl)]=some (.v (.int .i64 (IntKind.i64.wrap (m+dl))),G')/\Has G' lo hi (L.set k (.blk id te cells')):=by
 have hl:off+1<=ver:=by rw [<- hv];exact (List.getElem?_eq_some_iff.1 hc).1
 refine ⟨G.put id (.blk te cells' true),?_,H.put hk rfl (r':=.blk id te cells') Z0Y rfl⟩
 simp only [Z0B,onward,Y0A,Z05,Z0N,H.blk hk,hv,if_true,hg,hc,hs,PV.cells,YX,Ym,Yv,hc']
 rw [if_pos ⟨trivial,hl⟩]
 rfl
end Go.Dn

namespace Go.Dn
open Go
section
variable {α:Type}
theorem Z3k {sz:Nat}:∀ {xs:List (List α)},(∀ y∈xs,y.length=sz)->xs.flatten.length=xs.length*sz
 | [],_=>by simp
 | x::xs,h=>by
  have:=Z3k (xs:=xs) λy hy=>h y (YR _ hy);simp only [Yb,Yd,this,h x YU,YX,Y0c];omega
theorem pf_drop {sz:Nat}:∀ {xs:List (List α)},(∀ y∈xs,y.length=sz)->∀ {i:Nat} {y:List α},xs[i]? = some y->xs.flatten.drop (i*sz)=y++(xs.drop (i+1)).flatten
 | [],_,i,y,h=>by simp at h
 | x::xs,hs,0,y,h=>by
  simp at h;subst h;simp
 | x::xs,hs,i+1,y,h=>by
  have hx:=hs x YU;have:=pf_drop (xs:=xs) (λy hy=>hs y (YR _ hy)) (i:=i) (y:=y) (by simpa using h)
  rw [Yb,Y0c,Nat.add_comm (i*sz) sz,<- hx,<- List.drop_drop,List.drop_left,hx,this]
  simp
theorem pf_get {sz:Nat} {xs:List (List α)} (hs:∀ y∈xs,y.length=sz) {i j:Nat} {y:List α} (h:xs[i]? = some y) (hj:j<sz):xs.flatten[i*sz+j]? = y[j]?:=by
 rw [<- YY,pf_drop hs h,YM (by rw [hs y (YH h)];exact hj)]
theorem pf_lt {xs:List (List α)} {i:Nat} {y:List α} (h:xs[i]? = some y):i<xs.length:=(List.getElem?_eq_some_iff.1 h).1
theorem pf_part {sz off m:Nat} {xs:List (List α)} (hs:∀ y∈xs,y.length=sz) {i:Nat} {y:List α} (h:xs[i]? = some y) (hm:off+m<=sz):(xs.flatten.drop (i*sz+off)).take m=(y.drop off).take m:=by
 have hy:=hs y (YH h)
 rw [<- List.drop_drop,pf_drop hs h,Y0K (by omega),Yo (by rw [Y0T];omega)]
end
theorem pf_splice {sz:Nat} {xs:List (List PV)} (hs:∀ y∈xs,y.length=sz) {i:Nat} {y:List PV} (h:xs[i]? = some y) {off:Nat} {zs:List PV} (hle:off+zs.length<=sz) :
  splice xs.flatten (i*sz+off) zs=(xs.set i (y.take off++zs++y.drop (off+zs.length))).flatten:=by
 have hy:=hs y (YH h)
 have hi:=pf_lt h
 have e1:xs.flatten=(xs.take i).flatten++(y++(xs.drop (i+1)).flatten):=by
  conv=>lhs;rw [<- Y0N i xs]
  rw [Y05,Y0V hi,Yb];rw [YB hi] at h;cases h;rfl
 have e2:xs.set i (y.take off++zs++y.drop (off+zs.length))=xs.take i++(y.take off++zs++y.drop (off+zs.length))::xs.drop (i+1):=by
  rw [Ys,if_pos hi]
 have hl:(xs.take i).flatten.length=i*sz:=by
  rw [Z3k (sz:=sz) λy hy=>hs y (Y0B hy),Yr,Nat.min_eq_left (by omega)]
 rw [e2]
 unfold splice
 rw [e1,Y05,Yb]
 have t1:List.take (i*sz+off) ((xs.take i).flatten++(y++(xs.drop (i+1)).flatten))=(xs.take i).flatten++y.take off:=by
  rw [List.take_append,hl,Y06 (by omega),Yo (by omega)]
  congr 2;omega
 have t2:List.drop (i*sz+off+zs.length) ((xs.take i).flatten++(y++(xs.drop (i+1)).flatten))=y.drop (off+zs.length)++(xs.drop (i+1)).flatten:=by
  rw [List.drop_append,hl,List.drop_eq_nil_of_le (by omega),List.nil_append,Y0K (by omega)]
  congr 2;omega
 rw [t1,t2]
 simp only [Yu]
variable {P:Program} {G:Heap} {t:TypeId} {lo hi:Nat} {L:List Res}
theorem Z3E {id ver off:Nat} {te:TypeId} {cells:List PV} {w:PV} (H:Has G lo hi L) (k:Nat) (hk:L[k]? = some (.blk id te cells)) (hv:cells.length=ver) (hg:tagg P t=some false) (hc:cells[off]? = some w):Z05 P G t (.ptr id ver off)=some w:=by
 simp only [Z05,H.blk hk,hv,if_true,hg,hc]
theorem Z4z {id ver off:Nat} {te:TypeId} {cells cells':List PV} {w:FV} (H:Has G lo hi L) (k:Nat) (hk:L[k]? = some (.blk id te cells)) (hv:cells.length=ver) (hs:tsize P t=some 1) (hl:off+1<=ver) (hc':splice cells off [.v w]=cells') :
  ∃ G',Z0N P G t (.v w) (.ptr id ver off)=some G'/\Has G' lo hi (L.set k (.blk id te cells')):=by
 refine ⟨G.put id (.blk te cells' true),?_,H.put hk rfl (r':=.blk id te cells') Z0Y rfl⟩
 simp only [Z0N,H.blk hk,hv,if_true,hs,PV.cells,YX,Ym,Yv,hc']
 rw [if_pos ⟨trivial,hl⟩]
theorem once_done {call:ZK} {id ver off:Nat} {te ti:TypeId} {cells:List PV} {m:Nat} {dn:Int} {g:FuncId} {caps:List PV} (H:Has G lo hi L) (k:Nat) (hk:L[k]? = some (.blk id te cells)) (hv:cells.length=ver) (hg:tagg P t=some false) (hc:cells[off]? = some (.v (.int .u32 dn))) (hd:¬ dn=0) :
  Z0B P call G (.once t ti 0 m) [.ptr id ver off,.clo g [] caps]=some (.tup [],G):=by
 simp only [Z0B,onward,Y0A,Z3E H k hk hv hg hc,if_neg hd]
theorem once_first {call:ZK} {id ver off:Nat} {te ti:TypeId} {cells cells1 cells2 cells3 cells4:List PV} {g:FuncId} {caps:List PV} {L2:List Res} (H:Has G lo hi L) (k:Nat) (hk:L[k]? = some (.blk id te cells)) (hv:cells.length=ver)
  (hg:tagg P t=some false) (hgi:tagg P ti=some false) (hm:tsize P t=some 1) (hmi:tsize P ti=some 1) (hl:off+2<=ver) (hw:cells[off]? = some (.v (.int .u32 0))) (hw1:cells[off+1]? = some (.v (.int .i32 0)))
  (hc1:splice cells (off+1) [.v (.int .i32 1)]=cells1)
  (hc:∀ G1,Has G1 lo hi (L.set k (.blk id te cells1))->∃ r G2,call (.fn g) caps G1=some (r,G2)/\Has G2 lo hi L2)
  (hk2:L2[k]? = some (.blk id te cells2)) (hv2:cells2.length=ver) (hw2:cells2[off]? = some (.v (.int .u32 0))) (hw3:cells2[off+1]? = some (.v (.int .i32 1)))
  (hc3:splice cells2 off [.v (.int .u32 1)]=cells3) (hv3:cells3.length=ver) (hc4:splice cells3 (off+1) [.v (.int .i32 0)]=cells4) :
  ∃ G4,Z0B P call G (.once t ti 0 1) [.ptr id ver off,.clo g [] caps]=some (.tup [],G4)/\Has G4 lo hi (L2.set k (.blk id te cells4)):=by
 obtain ⟨G1,q1,H1⟩:=Z4z (P:=P) (t:=ti) (w:=.int .i32 1) H k hk hv hmi (off:=off+1) (by omega) hc1
 obtain ⟨r,G2,q2,H2⟩:=hc G1 H1
 have e3:=Z3E (P:=P) H2 k hk2 hv2 hg hw2
 have e4:=Z3E (P:=P) H2 k hk2 hv2 hgi hw3
 obtain ⟨G3,q3,H3⟩:=Z4z (P:=P) (t:=t) (w:=.int .u32 1) H2 k hk2 hv2 hm (off:=off) (by omega) hc3
 have hkl:k<L2.length:=(List.getElem?_eq_some_iff.1 hk2).1
 obtain ⟨G4,q4,H4⟩:=Z4z (P:=P) (t:=ti) (w:=.int .i32 0) H3 k (by rw [Y0L hkl]) hv3 hmi (off:=off+1) (by omega) hc4
 refine ⟨G4,?_,?_⟩
 ·simp only [Z0B,onward,Y0A,Z3E H k hk hv hg hw,Z3E H k hk hv hgi hw1,if_true,q1,Y4,q2,e3,e4,q3,q4,YE]
 ·rw [List.set_set] at H4;exact H4
end Go.Dn

namespace Go.Dn
open Go Go.Proofs
section
variable {X:Ctx} {n:Nat} {dr:Bool} {ops:Array Oper} {base i:Nat} {l:List Oper} {e:Env} {G:Heap} {K:Env->Heap->Prop} {d:Nat} {t t1 t2:TypeId} {p:String} {af:Array Edge} {x y:Operand} {lo hi:Nat} {L:List Res}
theorem Ops.indexK {id m sz ver:Nat} {el te:TypeId} {cells:List PV} {ik:IntKind} {iv:Int} (H:Has G lo hi L) (k:Nat) (hk:L[k]? = some (.blk id te cells)) (hv:cells.length=ver) (hx:Z0 X e x=some (.buf id m sz)) (hm:m*sz=ver)
  (hy:Z0 X e y=some (.v (.int ik iv))) (h0:0<=iv) (hlt:iv.toNat<m) (ht:tslice X.P t1=some el) (hs:tsize X.P el=some sz) (ha:dr=true->Seen ops base i id false) (hd:Nat.blt d n=true)
  (hk':Ops X n dr ops base (i+1) l (set e d (.ptr id ver (iv.toNat*sz))) G K):Ops X n dr ops base i (⟨some d,.indexAddr t1 x y,t,p,af,none⟩::l) e G K:=by
 subst hm
 refine .plain (x:=.ptr id (m*sz) (iv.toNat*sz)) (G1:=G) ?_ (λh=>Z0M (ids:=[id]) rfl ?_ (λj hj=>by simp at hj;subst hj;exact ha h)) hd hk'
 ·have hc:G.cur id (m*sz)=true:=H.cur hk hv;simp only [Z1,hx,hy,Zo,Z2C,if_pos h0,ht,hc,hs,Bool.true_and,beq_self_eq_true,decide_eq_true hlt,Yt,if_true,YE]
 ·simp only [touched,ZB,YI,YK,hx,vids,YL]
theorem Ops.eqPtr {id ver off:Nat} {te pt:TypeId} {cells:List PV} (H:Has G lo hi L) (k:Nat) (hk:L[k]? = some (.blk id te cells)) (hv:cells.length=ver) (hx:Z0 X e x=some (.ptr id ver off)) (hy:Z0 X e y=some (.v .nilp)) (ht:tpointer X.P t1=some pt) (hdr:dr=false) (hd:Nat.blt d n=true)
  (hk':Ops X n dr ops base (i+1) l (set e d (.v (.bool false))) G K):Ops X n dr ops base i (⟨some d,.binOp .eql t1 x y t2,t,p,af,none⟩::l) e G K :=
 Ops.binA hx hy (by simp only [binD,ht,Z25,H.cur hk hv,if_true,YE]) (λh=>by rw [hdr] at h;cases h) hd hk'
theorem Ops.eqBuf {id m sz:Nat} {te el:TypeId} {cells:List PV} (H:Has G lo hi L) (k:Nat) (hk:L[k]? = some (.blk id te cells)) (hv:cells.length=m*sz) (hx:Z0 X e x=some (.buf id m sz)) (hy:Z0 X e y=some .nils) (ht:tslice X.P t1=some el) (hdr:dr=false) (hd:Nat.blt d n=true)
  (hk':Ops X n dr ops base (i+1) l (set e d (.v (.bool false))) G K):Ops X n dr ops base i (⟨some d,.binOp .eql t1 x y t2,t,p,af,none⟩::l) e G K :=
 Ops.binA hx hy (by simp only [binD,ht,Z36,H.cur hk hv,if_true,YE]) (λh=>by rw [hdr] at h;cases h) hd hk'
end
def kcell:Option Form->List PV
 | none=>[.v (.int .u32 0),.v (.int .i32 0),.v (.int .u32 0),.v (.int .i64 0),.v (.int .i64 0),.nils,.nils]
 | some f=>.v (.int .u32 1) :: .v (.int .i32 0) :: .v (.int .u32 0)::vs (Form.cs f)
def kcells (ks:List (Option Form)):List PV:=(ks.map kcell).flatten
theorem kcell_len (k:Option Form):(kcell k).length=7:=by cases k<;>rfl
theorem Z4h (ks:List (Option Form)):∀ y∈ks.map kcell,y.length=7:=λy hy=>by
 obtain ⟨k,_,rfl⟩:=List.mem_map.1 hy
 exact kcell_len k
theorem Z6F (ks:List (Option Form)):(kcells ks).length=ks.length*7:=by
 unfold kcells
 rw [Z3k (Z4h ks),Yl]
theorem kset_len {l:List (List PV)} (h:∀ y∈l,y.length=7) {i:Nat} {y1:List PV} (h1:y1.length=7):∀ y∈l.set i y1,y.length=7:=λy hy=>by
 rcases List.mem_or_eq_of_mem_set hy with h2|rfl
 ·exact h y h2
 ·exact h1
theorem kcells_steps {ks:List (Option Form)} {i:Nat} {f:Form} (h:ks[i]? = some none) :
  (kcells ks)[i*7]? = some (.v (.int .u32 0))/\(kcells ks)[i*7+1]? = some (.v (.int .i32 0)) /\
  ∃ c1 c2 c3,splice (kcells ks) (i*7+1) [.v (.int .i32 1)]=c1/\c1.length=ks.length*7/\splice c1 (i*7+3) (vs (Form.cs f))=c2/\c2.length=ks.length*7 /\
   c2[i*7]? = some (.v (.int .u32 0))/\c2[i*7+1]? = some (.v (.int .i32 1))/\splice c2 (i*7) [.v (.int .u32 1)]=c3/\c3.length=ks.length*7/\splice c3 (i*7+1) [.v (.int .i32 0)]=kcells (ks.set i (some f)):=by
 have hy:(ks.map kcell)[i]? = some (kcell none):=by rw [YP,h];rfl
 have hl:=Z4h ks
 have hi:i<(ks.map kcell).length:=pf_lt hy
 have st:∀ (y z zs:List PV) (off:Nat),y.length=7->off+zs.length<=7->y.take off++zs++y.drop (off+zs.length)=z->splice ((ks.map kcell).set i y).flatten (i*7+off) zs=((ks.map kcell).set i z).flatten:=λy z zs off h1 h2 h3=>by
  rw [pf_splice (kset_len hl h1) (Y0L hi) h2,List.set_set,h3]
 have ln:∀ y:List PV,y.length=7->((ks.map kcell).set i y).flatten.length=ks.length*7:=λy h1=>by
  rw [Z3k (kset_len hl h1),List.length_set,Yl]
 have gt:∀ (y:List PV) (j:Nat),y.length=7->j<7->((ks.map kcell).set i y).flatten[i*7+j]? = y[j]?:=λy j h1 h2=>pf_get (kset_len hl h1) (Y0L hi) h2
 refine ⟨pf_get hl hy (j:=0) (by decide),pf_get hl hy (j:=1) (by decide),((ks.map kcell).set i [.v (.int .u32 0),.v (.int .i32 1),.v (.int .u32 0),.v (.int .i64 0),.v (.int .i64 0),.nils,.nils]).flatten,
  ((ks.map kcell).set i ([.v (.int .u32 0),.v (.int .i32 1),.v (.int .u32 0)]++vs (Form.cs f))).flatten,((ks.map kcell).set i ([.v (.int .u32 1),.v (.int .i32 1),.v (.int .u32 0)]++vs (Form.cs f))).flatten,
  pf_splice hl hy (off:=1) (zs:=[.v (.int .i32 1)]) (by decide),ln _ rfl,st _ _ (vs (Form.cs f)) 3 rfl (by show 3+4<=7;decide) rfl,ln _ rfl,gt _ 0 rfl (by decide),gt _ 1 rfl (by decide),st _ _ [.v (.int .u32 1)] 0 rfl (by decide) rfl,ln _ rfl,(st _ (kcell (some f)) [.v (.int .i32 0)] 1 rfl (by decide) rfl).trans ?_⟩
 unfold kcells
 rw [List.map_set]
theorem Z5l {ks:List (Option Form)} {i:Nat} {f:Form} (h:ks[i]? = some (some f)) :
  (kcells ks)[i*7]? = some (.v (.int .u32 1))/\((kcells ks).drop (i*7+3)).take 4=vs (Form.cs f):=by
 have hy:(ks.map kcell)[i]? = some (kcell (some f)):=by rw [YP,h];rfl
 exact ⟨pf_get (Z4h ks) hy (j:=0) (by decide),pf_part (Z4h ks) hy (off:=3) (m:=4) (by decide)⟩
end Go.Dn

namespace Go.Dn
open Go Go.Proofs
variable {G:Heap} {T:List Res}
set_option maxRecDepth 100000 in
set_option maxHeartbeats 4000000 in
theorem form1_call {ida idp idr idb idc idk:Nat} {i m:Int} {f:Form} {rc c1 c2:List PV} (hf:Z0n i=some f) (hl:c1.length=42) (hi:i.toNat<6) (hc2:splice c1 (i.toNat*7+3) (vs (Form.cs f))=c2)
  (H:Hs G ([.blk idp 60 [.ptr idk 42 (i.toNat*7)],.blk ida 3 [.v (.int .i64 i)],.blk idr 29 rc,.blk idb 22 [.ptr idc 2 0],.blk idc 44 [.buf idk 6 7,.v (.int .i64 m)],.blk idk 72 c1]++T)) :
  CallI CZ (.v (.fn 21)) [.ptr ida 1 0,.ptr idp 1 0,.ptr idb 1 0] G T (λr A=>A=[.blk idp 60 [.ptr idk 42 (i.toNat*7)],.blk ida 3 [.v (.int .i64 i)],.blk idr 29 rc,.blk idb 22 [.ptr idc 2 0],.blk idc 44 [.buf idk 6 7,.v (.int .i64 (w64 (m+1)))],.blk idk 72 c2]):=by
 refine callI_of Tryd.func21 rfl (λ_=>rfl) rfl rfl rfl rfl ?_
 apply Runs.then
 refine Runs.Z0v 6 rfl (by kernel_rfl) H ?_;intro b1 G H B1
 refine Ops.Z27 (off:=0) (v:=.ptr idk 42 (i.toNat*7)) H 0 rfl rfl rfl rfl rfl (λ_=>.inl ⟨B1 0 _ rfl _ rfl,nofun,(λ_=>by kernel_rfl)⟩) rfl ?_
 refine Ops.Z27 (off:=0) (v:=.v (.int .i64 i)) H 1 rfl rfl rfl rfl rfl (λ_=>.inl ⟨B1 1 _ rfl _ rfl,nofun,(λ_=>by kernel_rfl)⟩) rfl ?_
 refine Ops.call (ys:=[(.v (.int .i64 i))]) (r:=.agg (vs (Form.cs f))) rfl (lift rfl (basis_made_fn hf) rfl rfl) rfl ?_
 refine Ops.Z1K (off:=i.toNat*7) H 5 rfl hl rfl (λ_=>.inl ⟨B1 5 _ rfl _ rfl,nofun,(λ_=>by kernel_rfl)⟩) rfl ?_
 refine Ops.ZA (off:=i.toNat*7) (fo:=3) H 5 rfl hl rfl rfl rfl (λ_=>.inl ⟨B1 5 _ rfl _ rfl,nofun,(λ_=>by kernel_rfl)⟩) rfl ?_
 refine Ops.Z1y (off:=i.toNat*7+3) (m:=4) (cells':=c2) H 5 rfl hl rfl rfl rfl rfl rfl (Nat.ble_eq_true_of_le (by omega)) hc2 (λ_=>.inl ⟨B1 5 _ rfl _ rfl,(Z32 (by kernel_rfl))⟩) ?_;intro G H
 apply Ops.nil
 replace H:=H.all
 refine Runs.Za 4 rfl H ?_;intro b2 G H
 refine Ops.Z27 (off:=0) (v:=.ptr idc 2 0) H 3 rfl rfl rfl rfl rfl nofun rfl ?_
 refine Ops.Z1K (off:=0) H 4 rfl rfl rfl nofun rfl ?_
 refine Ops.ZA (off:=0) (fo:=1) H 4 rfl rfl rfl rfl rfl nofun rfl ?_
 obtain ⟨G',q1,H⟩:=prim_add (P:=CZ.P) (call:=ZT CZ) (t:=2) (off:=1) (m:=m) (dl:=1) (cells':=[.buf idk 6 7,.v (.int .i64 (w64 (m+1)))]) H 4 rfl rfl rfl rfl rfl rfl
 refine Ops.callPr rfl rfl rfl q1 nofun rfl ?_
 apply Ops.nil
 replace H:=H.all
 exact ⟨.inl rfl,[],Z1q H .nil,_,rfl,H⟩
set_option maxRecDepth 100000 in
set_option maxHeartbeats 4000000 in
theorem Z1w {idc idk:Nat} {name:ByteArray} {ks ks':List (Option Form)} {m m':Int} {g:Form} {e:Int} (h:Z09 name (ks,m)=some ((g,e),(ks',m')))
  (H:Hs G ([.blk idc 44 [.buf idk 6 7,.v (.int .i64 m)],.blk idk 72 (kcells ks)]++T)) :
  CallI CZ (.v (.fn 10)) [.ptr idc 2 0,.v (.str name)] G T (λr A=>∃ w1 w2,RO w1 (g.Core.map (cL Span.cs))/\RO w2 (g.Odd.map Granule.cs)/\r = .tup [.agg [.v (.int .i64 g.Period),.v (.int .i64 g.Count),w1,w2],.v (.int .i64 e)] /\
   A=[.blk idc 44 [.buf idk 6 7,.v (.int .i64 m')],.blk idk 72 (kcells ks')]):=by
 unfold Z09 at h
 have hks:ks.length=6:=by
  cases hq:ks.length==6 with
  | true=>exact eq_of_beq hq
  | false=>simp only [hq,cond_false] at h;cases h
 have h:=Z4L (by simpa using hks) h
 have hl:(kcells ks).length=42:=by rw [Z6F,hks]
 refine callI_of Tryd.func10 rfl (λ_=>rfl) rfl rfl rfl rfl ?_
 obtain ⟨i,hi,h⟩:=bind_some h
 apply Runs.then
 refine Runs.Za 3 rfl H ?_;intro b1 G H
 refine Ops.boxH (cs:=[.ptr idc 2 0]) H (by omega) (by omega) rfl rfl rfl ?_;intro G H
 refine Ops.allocH (cs:=[(.v (.int .i64 0)),(.v (.int .i64 0)),.nils,.nils]) H (by omega) (by omega) rfl rfl ?_;intro G H
 refine Ops.assign (v:=(.v (.int .i64 0))) rfl rfl ?_
 apply Ops.nil
 replace H:=H.all
 apply Runs.then
 apply Runs.then
 refine Runs.Za 9 rfl H ?_;intro b2 G H
 refine Ops.Z27 (off:=0) (v:=.ptr idc 2 0) H 1 rfl rfl rfl rfl rfl nofun rfl ?_
 refine Ops.eqPtr (off:=0) H 2 rfl rfl rfl rfl rfl rfl rfl ?_
 refine Ops.move (v:=(.v (.bool false))) rfl rfl ?_
 refine Ops.wanted rfl rfl ?_
 refine Ops.Z27 (off:=0) (v:=.ptr idc 2 0) H 1 rfl rfl rfl rfl rfl nofun rfl ?_
 refine Ops.wanted rfl rfl ?_
 refine Ops.Z1K (off:=0) H 2 rfl rfl rfl nofun rfl ?_
 refine Ops.wanted rfl rfl ?_
 refine Ops.ZA (off:=0) (fo:=0) H 2 rfl rfl rfl rfl rfl nofun rfl ?_
 refine Ops.wanted rfl rfl ?_
 refine Ops.Z27 (off:=0) (v:=.buf idk 6 7) H 2 rfl rfl rfl rfl rfl nofun rfl ?_
 refine Ops.wanted rfl rfl ?_
 refine Ops.eqBuf H 3 rfl hl rfl rfl rfl rfl rfl ?_
 refine Ops.pickF (v:=(.v (.bool false))) rfl rfl rfl ?_
 apply Ops.nil
 replace H:=H.all
 refine Runs.no rfl ?_
 apply Runs.skip
 apply Runs.then
 refine Runs.Za 5 rfl H ?_;intro b3 G H
 refine Ops.call (ys:=[]) (r:=.v (.sl (Z8.map cS))) rfl (lift rfl (Z3P rfl) rfl rfl) rfl ?_
 refine Ops.move (v:=.v (.str name)) rfl rfl ?_
 refine Ops.call (ys:=[.v (.sl (Z8.map cS)),.v (.str name)]) (r:=.v (.int .i64 i)) rfl (lift rfl (Z1X hi) rfl rfl) rfl ?_
 refine Ops.allocH (cs:=[(.v (.int .i64 0))]) H (by omega) (by omega) rfl rfl ?_;intro G H
 refine Ops.Z1y (off:=0) (cells':=[(.v (.int .i64 i))]) H 0 rfl rfl rfl rfl rfl rfl rfl rfl rfl nofun ?_;intro G H
 apply Ops.nil
 replace H:=H.all
 apply Runs.then
 apply Runs.then
 refine Runs.Za 2 rfl H ?_;intro b4 G H
 refine Ops.Z27 (off:=0) (v:=.v (.int .i64 i)) H 0 rfl rfl rfl rfl rfl nofun rfl ?_
 refine Ops.int (m:=i) (m':=0) (r:=.bool (decide (i<0))) rfl rfl rfl rfl rfl ?_
 apply Ops.nil
 replace H:=H.all
 refine Runs.whether (v:=decide (i<0)) rfl ?_ ?_<;>intro hc2
 ·replace h:=Z4L hc2 h;simp only [YA,Y5] at h;obtain ⟨⟨rfl,rfl⟩,rfl,rfl⟩:=h;apply Runs.then;refine Runs.Za 3 rfl H ?_;intro b5 G H;refine Ops.Z5O (cs:=[(.v (.int .i64 0)),(.v (.int .i64 0)),.nils,.nils]) rfl rfl ?_;refine Ops.Z1y (off:=0) (cells':=[(.v (.int .i64 0)),(.v (.int .i64 0)),.nils,.nils]) H 1 rfl rfl rfl rfl rfl rfl rfl rfl rfl nofun ?_;intro G H;refine Ops.assign (v:=(.v (.int .i64 80))) rfl rfl ?_;apply Ops.nil;replace H:=H.all;apply Runs.ret;exact ⟨.inr rfl,_,Z1q H (.agg (cs:=[(.v (.int .i64 0)),(.v (.int .i64 0)),.nils,.nils]) (off:=0) 1 rfl rfl rfl rfl rfl rfl rfl (.tmp (v:=.v (.int .i64 80)) rfl .nil)),_,⟨.nils,.nils,.inl ⟨rfl,rfl⟩,.inl ⟨rfl,rfl⟩,rfl,rfl⟩,H.drop 3⟩
 ·replace h:=Z5M hc2 h;have hi0:0<=i:=by
   have:=of_decide_eq_false hc2;omega
  obtain ⟨k,hk,h⟩:=bind_some h;obtain ⟨_,hk⟩:=at?_some hk;have hi6:i.toNat<6:=hks▸(List.getElem?_eq_some_iff.1 hk).1;apply Runs.skip;apply Runs.then;refine Runs.Z0v 8 rfl (by kernel_rfl) H ?_;intro b5 G H B5
  refine Ops.Z27 (off:=0) (v:=.ptr idc 2 0) H 2 rfl rfl rfl rfl rfl (λ_=>.inl ⟨B5 2 _ rfl _ rfl,nofun,(λ_=>by kernel_rfl)⟩) rfl ?_
  refine Ops.Z1K (off:=0) H 3 rfl rfl rfl (λ_=>.inl ⟨B5 3 _ rfl _ rfl,nofun,(λ_=>by kernel_rfl)⟩) rfl ?_
  refine Ops.ZA (off:=0) (fo:=0) H 3 rfl rfl rfl rfl rfl (λ_=>.inl ⟨B5 3 _ rfl _ rfl,nofun,(λ_=>by kernel_rfl)⟩) rfl ?_
  refine Ops.Z27 (off:=0) (v:=.buf idk 6 7) H 3 rfl rfl rfl rfl rfl (λ_=>.inl ⟨B5 3 _ rfl _ rfl,nofun,(λ_=>by kernel_rfl)⟩) rfl ?_
  refine Ops.Z27 (off:=0) (v:=.v (.int .i64 i)) H 0 rfl rfl rfl rfl rfl (λ_=>.inl ⟨B5 0 _ rfl _ rfl,nofun,(λ_=>by kernel_rfl)⟩) rfl ?_
  refine Ops.indexK (m:=6) (sz:=7) H 4 rfl hl rfl rfl rfl hi0 hi6 rfl rfl (λ_=>.inl ⟨B5 4 _ rfl _ rfl,nofun,(λ_=>by kernel_rfl)⟩) rfl ?_
  refine Ops.allocH (cs:=[(.v .nilp)]) H (by omega) (by omega) rfl rfl ?_;intro G H
  refine Ops.Z1y (off:=0) (cells':=[.ptr idk 42 (i.toNat*7)]) H 0 rfl rfl rfl rfl rfl rfl rfl rfl rfl (λ_=>.inr ⟨6,rfl,by kernel_rfl,by decide⟩) ?_;intro G H
  apply Ops.nil;replace H:=H.all;apply Runs.then;refine Runs.Za 5 rfl H ?_;intro b6 G H;refine Ops.Z27 (off:=0) (v:=.ptr idk 42 (i.toNat*7)) H 0 rfl rfl rfl rfl rfl nofun rfl ?_;refine Ops.Z1K (off:=i.toNat*7) H 5 rfl hl rfl nofun rfl ?_;refine Ops.ZA (off:=i.toNat*7) (fo:=0) H 5 rfl hl rfl rfl rfl nofun rfl ?_;refine Ops.makeClo (fs:=[]) (cs:=[.ptr (b3+3) 1 0,.ptr (b5+6) 1 0,.ptr (b1+0) 1 0]) rfl rfl rfl rfl ?_
  obtain ⟨f,hg,hkf,hl2,he,G',q1,H⟩ : ∃ f,Z9 f=some g/\ks'[i.toNat]? = some (some f)/\ks'.length=6/\e=0/\∃ G',Z0B CZ.P (ZT CZ) G (.once 62 21 0 1) [.ptr idk 42 (i.toNat*7),.clo 21 [] [.ptr (b3+3) 1 0,.ptr (b5+6) 1 0,.ptr (b1+0) 1 0]]=some (.tup [],G') /\
    Has G' b6 (b6+5) ([.blk (b5+6) 60 [.ptr idk 42 (i.toNat*7)],.blk (b3+3) 3 [.v (.int .i64 i)],.blk (b1+1) 29 [(.v (.int .i64 0)),(.v (.int .i64 0)),.nils,.nils],.blk (b1+0) 22 [.ptr idc 2 0],.blk idc 44 [.buf idk 6 7,.v (.int .i64 m')],.blk idk 72 (kcells ks')]++T):=by
   cases k with
   | some f=>
    obtain ⟨g',hg,h⟩:=bind_some h;simp only [YA,Y5] at h;obtain ⟨⟨rfl,rfl⟩,rfl,rfl⟩:=h;exact ⟨f,hg,hk,hks,rfl,G,once_done H 5 rfl hl rfl (Z5l hk).1 (by decide),H⟩
   | none=>
    obtain ⟨f,hf,h⟩:=bind_some h;obtain ⟨g',hg,h⟩:=bind_some h;simp only [YA,Y5] at h;obtain ⟨⟨rfl,rfl⟩,rfl,rfl⟩:=h;obtain ⟨u1,u2,c1,c2,c3,s1,l1,s2,l2,u3,u4,s3,l3,s4⟩:=kcells_steps (f:=f) hk;rw [hks] at l1 l2 l3;obtain ⟨G4,q,H4⟩:=once_first (P:=CZ.P) (call:=ZT CZ) (t:=62) (ti:=21) (g:=21) (caps:=[.ptr (b3+3) 1 0,.ptr (b5+6) 1 0,.ptr (b1+0) 1 0]) (cells2:=c2)
     (L2:=[.blk (b5+6) 60 [.ptr idk 42 (i.toNat*7)],.blk (b3+3) 3 [.v (.int .i64 i)],.blk (b1+1) 29 [(.v (.int .i64 0)),(.v (.int .i64 0)),.nils,.nils],.blk (b1+0) 22 [.ptr idc 2 0],.blk idc 44 [.buf idk 6 7,.v (.int .i64 (w64 (m+1)))],.blk idk 72 c2]++T)
     H 5 rfl hl rfl rfl rfl rfl (by omega) u1 u2 s1 (λG1 H1=>by
      obtain ⟨r,G2,A',p1,rfl,p3⟩:=Z4E (X:=CZ) [.blk (b5+6) 60 [.ptr idk 42 (i.toNat*7)],.blk (b3+3) 3 [.v (.int .i64 i)],.blk (b1+1) 29 [(.v (.int .i64 0)),(.v (.int .i64 0)),.nils,.nils],.blk (b1+0) 22 [.ptr idc 2 0],.blk idc 44 [.buf idk 6 7,.v (.int .i64 m)],.blk idk 72 c1] H1 (λT _ H=>form1_call hf l1 hi6 s2 H);exact ⟨r,G2,p1,p3⟩) rfl l2 u3 u4 s3 l3 s4
    exact ⟨f,hg,Y0L (by omega),by rw [List.length_set,hks],rfl,G4,q,H4⟩
  have hl':(kcells ks').length=42:=by rw [Z6F,hl2]
  subst he;refine Ops.callPr rfl rfl rfl q1 nofun rfl ?_;apply Ops.nil;replace H:=H.all;apply Runs.then;refine Runs.Za 7 rfl H ?_;intro b7 G H;refine Ops.Z27 (off:=0) (v:=.ptr idk 42 (i.toNat*7)) H 0 rfl rfl rfl rfl rfl nofun rfl ?_;refine Ops.Z1K (off:=i.toNat*7) H 5 rfl hl' rfl nofun rfl ?_;refine Ops.ZA (off:=i.toNat*7) (fo:=3) H 5 rfl hl' rfl rfl rfl nofun rfl ?_;refine Ops.loadHA (off:=i.toNat*7+3) (m:=4) (cs:=vs (Form.cs f)) H 5 rfl hl' rfl rfl rfl (Nat.ble_eq_true_of_le (by omega)) (Z5l hkf).2 nofun rfl ?_
  refine Ops.call (ys:=[.agg (vs (Form.cs f))]) (r:=.agg (vs (Form.cs g))) rfl (lift rfl (gran_Copy_fn hg) rfl rfl) rfl ?_;refine Ops.Z1y (off:=0) (cells':=vs (Form.cs g)) H 2 rfl rfl rfl rfl rfl rfl rfl rfl rfl nofun ?_;intro G H;refine Ops.assign (v:=(.v (.int .i64 0))) rfl rfl ?_;apply Ops.nil;replace H:=H.all;apply Runs.ret;exact ⟨.inr rfl,_,Z1q H (.agg (cs:=vs (Form.cs g)) (off:=0) 2 rfl rfl rfl rfl rfl rfl rfl (.tmp (v:=.v (.int .i64 0)) rfl .nil)),_,⟨_,_,.inr rfl,.inr rfl,rfl,rfl⟩,H.drop 4⟩
set_option maxRecDepth 100000 in
set_option maxHeartbeats 4000000 in
theorem made_call {idc:Nat} {x:PV} {m:Int} (H:Hs G ([.blk idc 44 [x,.v (.int .i64 m)]]++T)):CallI CZ (.v (.fn 13)) [.ptr idc 2 0] G T (λr A=>r = .v (.int .i64 m)/\A=[.blk idc 44 [x,.v (.int .i64 m)]]):=by
 refine callI_of Tryd.func13 rfl (λ_=>rfl) rfl rfl rfl rfl ?_
 apply Runs.then
 refine Runs.Za 1 rfl H ?_;intro b1 G H
 refine Ops.assign (v:=(.v (.int .i64 0))) rfl rfl ?_
 apply Ops.nil
 replace H:=H.all
 apply Runs.then
 apply Runs.then
 refine Runs.Za 2 rfl H ?_;intro b2 G H
 refine Ops.move (v:=.ptr idc 2 0) rfl rfl ?_
 refine Ops.eqPtr (off:=0) H 0 rfl rfl rfl rfl rfl rfl rfl ?_
 apply Ops.nil
 replace H:=H.all
 refine Runs.no rfl ?_
 apply Runs.skip
 apply Runs.then
 refine Runs.Za 5 rfl H ?_;intro b3 G H
 refine Ops.move (v:=.ptr idc 2 0) rfl rfl ?_
 refine Ops.Z1K (off:=0) H 0 rfl rfl rfl nofun rfl ?_
 refine Ops.ZA (off:=0) (fo:=1) H 0 rfl rfl rfl rfl rfl nofun rfl ?_
 refine Ops.callPr rfl rfl rfl (prim_load (P:=CZ.P) (call:=ZT CZ) (t:=2) (off:=1) (m:=m) H 0 rfl rfl rfl rfl) nofun rfl ?_
 refine Ops.assign (v:=(.v (.int .i64 m))) rfl rfl ?_
 apply Ops.nil
 replace H:=H.all
 apply Runs.ret
 exact ⟨.inr rfl,_,Z1q H (.tmp (v:=.v (.int .i64 m)) rfl .nil),_,⟨rfl,rfl⟩,H⟩
end Go.Dn

namespace Go.Dn
open Go Go.Proofs
theorem Ops.makeK {X:Ctx} {n:Nat} {dr:Bool} {ops:Array Oper} {base i:Nat} {l:List Oper} {e:Env} {G:Heap} {K:Env->Heap->Prop} {d:Nat} {t t1:TypeId} {p:String} {af:Array Edge} {x y:Operand} {lo hi:Nat} {L:List Res}
  {el:TypeId} {by_ sz k:Nat} {m:Int} {zs cells:List PV} (H:Has G lo hi L) (hlo:lo<=base+i) (hhi:base+i<hi)
  (hx:Z0 X e x=some (.v (.int .i64 m))) (hy:Z0 X e y=some (.v (.int .i64 m))) (h0:0<=m) (hroom:m.toNat*by_<=room) (hm:m.toNat=k)
  (ht:tslice X.P t1=some el) (hs:tsize X.P el=some sz) (hb:tbytes X.P el=some by_) (hz:tzero X.P el=some zs) (hzl:zs.length=sz) (hsz:sz≠0) (hby:by_≠0) (hc:(List.replicate k zs).flatten=cells) (hd:Nat.blt d n=true)
  (hk:∀ G',Has G' (base+i+1) hi (.blk (base+i) el cells::L)->Ops X n dr ops base (i+1) l (set e d (.buf (base+i) k sz)) G' K) :
  Ops X n dr ops base i (⟨some d,.makeSlice t1 x y,t,p,af,none⟩::l) e G K:=by
 subst hm hc hzl
 refine .plain (x:=.buf (base+i) m.toNat zs.length) (G1:=G.put (base+i) (.blk el (List.replicate m.toNat zs).flatten true)) ?_ (λ_=>Zt rfl) hd (hk _ (H.push hlo hhi (r':=.blk (base+i) el _) Z0Y rfl))
 simp only [Z1,hx,hy,makeD,ht,hs,hb,hz]
 rw [if_pos ⟨trivial,h0,hroom,trivial,hsz,hby⟩]
theorem cz_np {f:FuncId} {xs:List PV} (h:xs.all PV.pure=false):CZ.intr f xs=none:=by
 show (if ownZ f then none else Z48 CX f xs)=none
 cases ownZ f with
 | true=>rfl
 | false=>
  simp only [YF,if_false];cases hl:Z48 CX f xs with
  | none=>rfl
  | some r=>have:=(liftI_fn hl).pure;rw [h] at this;cases this
theorem Ops.Z3L {n:Nat} {dr:Bool} {ops:Array Oper} {base i:Nat} {l:List Oper} {e:Env} {G:Heap} {K:Env->Heap->Prop} {d:Nat} {t:TypeId} {p:String} {af:Array Edge} {lo hi:Nat} {L:List Res}
  {f:FuncId} {args:Array Operand} {ts:Array TypeId} {xs ys:List PV} {r:PV} {L':List Res} (H:Has G lo hi L) (ha:ZC CZ e args.toList=some xs) (hE:ExpVs L xs ys L') (hf:Fn CZ f ys r) (ht:CZ.thaw f=false) (hdr:dr=true->Z1C (Region.before ops) ops i=true) (hd:Nat.blt d n=true)
  (hk:∀ G',Has G' lo hi L'->Ops CZ n dr ops base (i+1) l (set e d r) G' K) :
  Ops CZ n dr ops base i (⟨some d,.call { callee:=.value (.func f),args:=args,argTypes:=ts },t,p,af,none⟩::l) e G K:=by
 obtain ⟨G',q1,q2,q3,_⟩:=expVs_ok H hE
 obtain ⟨G2,h1,h2⟩ : ∃ G2,ZT CZ (.fn f) xs G=some (r,G2)/\Has G2 lo hi L':=by
  cases hp:xs.all PV.pure with
  | true=>
   rw [Z0H hp] at q2;obtain ⟨rfl,rfl⟩:=Prod.mk.inj (Option.some.inj q2);exact ⟨G,hf.call G,q3⟩
  | false=>exact ⟨G',callL_exp hf (cz_np hp) (.inl ht) q2,q3⟩
 exact .plain (x:=r) (G1:=G2) (by simp only [Z1,ZO,ha,Z0,h1]) (λh=>Z3m (hdr h)) hd (hk G2 h2)
set_option maxRecDepth 100000 in
set_option maxHeartbeats 4000000 in
theorem new_call:FnO CZ 7 [] (λr A=>∃ idc idk,r = .ptr idc 2 0/\A=[.blk idc 44 [.buf idk 6 7,.v (.int .i64 0)],.blk idk 72 (kcells [none,none,none,none,none,none])]):=by
 refine FnO.of Tryd.func7 rfl rfl rfl rfl rfl rfl ?_
 intro G T H
 apply Runs.then
 refine Runs.Za 1 rfl H ?_;intro b1 G H
 refine Ops.assign (v:=(.v .nilp)) rfl rfl ?_
 apply Ops.nil
 replace H:=H.all
 apply Runs.then
 refine Runs.Za 6 rfl H ?_;intro b2 G H
 refine Ops.call (ys:=[]) (r:=.v (.sl (Z8.map cS))) rfl (lift rfl (Z3P rfl) rfl rfl) rfl ?_
 refine Ops.lenPt (c:=cS) (xs:=Z8) rfl rfl rfl ?_
 refine Ops.makeK (m:=6) (k:=6) H (by omega) (by omega) rfl rfl (by decide) (by decide) rfl rfl rfl rfl rfl rfl (by decide) (by decide) rfl rfl ?_;intro G H
 refine Ops.Z5O (cs:=[.buf (b2+2) 6 7,(.v (.int .i64 0))]) rfl rfl ?_
 refine Ops.boxH (cs:=[.buf (b2+2) 6 7,(.v (.int .i64 0))]) H (by omega) (by omega) rfl rfl rfl ?_;intro G H
 refine Ops.assign (v:=.ptr (b2+4) 2 0) rfl rfl ?_
 apply Ops.nil
 replace H:=H.all
 apply Runs.ret
 exact ⟨.inr rfl,_,Z1q H (.tmp (v:=.ptr (b2+4) 2 0) rfl .nil),_,⟨_,_,rfl,rfl⟩,H⟩
end Go.Dn

namespace Go.Dn
open Go
theorem Z5N {S R:Type} {step:S->Option (S⊕R)} (I:S->Prop) (m:S->Nat) (post:R->Prop)
  (h:∀ s,I s->(∃ s',step s=some (.inl s')/\I s'/\m s'<m s)\/(∃ r,step s=some (.inr r)/\post r)):∀ s,I s->∃ r,loopO step s=some r/\post r:=by
 have key:∀ n s,m s=n->I s->∃ r,loopO step s=some r/\post r:=by
  intro n
  induction n using Nat.strongRecOn with
  | _ n ih=>
   intro s hm hI;rcases h s hI with ⟨s',h1,h2,h3⟩|⟨r,h1,h2⟩
   ·obtain ⟨r,q1,q2⟩:=ih (m s') (by omega) s' rfl h2
    exact ⟨r,by rw [loopO_eq,h1];exact q1,q2⟩
   ·exact ⟨r,by rw [loopO_eq,h1],h2⟩
 exact λs hI=>key _ s rfl hI
theorem Z1L {S R:Type} {step:S->Option (S⊕R)} (I:S->R->Prop) (m:S->Nat)
  (h:∀ s r,I s r->(∃ s',step s=some (.inl s')/\I s' r/\m s'<m s)\/step s=some (.inr r)) {s:S} {r:R} (hI:I s r):loopO step s=some r:=by
 obtain ⟨r',h1,h2⟩:=Z5N (I:=λs=>I s r) m (λr'=>r'=r) (λs hs=>by
  rcases h s r hs with ⟨s',h1,h2,h3⟩|h1
  ·exact .inl ⟨s',h1,h2,h3⟩
  ·exact .inr ⟨r,h1,rfl⟩) s hI
 rw [h1,h2]
theorem Z21 (a:Int):IntKind.i64.wrap a=(a+9223372036854775808) % 18446744073709551616-9223372036854775808:=by
 simp [IntKind.wrap,IntKind.bits,IntKind.signed]
 split<;>omega
theorem Z3S (a:Int):IntKind.u64.wrap a=a % 18446744073709551616:=by
 simp [IntKind.wrap,IntKind.bits,IntKind.signed]
theorem okI_i64 {x:Int}:okI .i64 x ↔ -9223372036854775808<=x/\x<=9223372036854775807:=Iff.rfl
theorem ZN {x:Int} (h : -9223372036854775808<=x/\x<=9223372036854775807):w64 x=x:=by
 unfold w64;rw [Z21];omega
theorem room_eq:room=140737488355328:=rfl
theorem at?_lt {α:Type} {l:List α} {i:Int} (h0:0<=i) (h:i<l.length):at? l i=some (l[i.toNat]'(by omega)):=by
 unfold at?;rw [if_pos h0,YB]
theorem at?_nat {α:Type} {l:List α} {k:Nat} (h:k<l.length):at? l (k:Int)=some l[k]:=by
 rw [at?_lt (by omega) (by omega)];rfl
theorem app?_ok {α:Type} {b:Nat} {l m:List α} (h:(l.length+m.length)*b<=room):app? b l m=some (l++m):=if_pos h
theorem nz?_ok {b:Int} (h:b≠0):nz? b=some ():=if_neg h
theorem beq_t {a b:Int} (h:a=b):(a==b)=true:=by simp [h]
theorem beq_f {a b:Int} (h:a≠b):(a==b)=false:=by simp [h]
theorem bne_f {a b:Int} (h:a=b):(a != b)=false:=by simp [h]
theorem Z0d {p:Prop} [Decidable p] (h:p):decide p=true:=by simp [h]
theorem Z0R {p:Prop} [Decidable p] (h:¬ p):decide p=false:=by simp [h]
theorem pickB {α:Type} (c:Bool) (a b:α):(bif c then a else b)=if c=true then a else b:=by cases c<;>rfl
theorem first_bad {α:Type} {l:List α} {good:Nat->α->Prop} (h:¬ ∀ k x,l[k]? = some x->good k x):∃ (k:Nat) (x:α),l[k]? = some x/\¬ good k x/\∀ j y,j<k->l[j]? = some y->good j y:=by
 have hex:∃ k:Nat,∃ x,l[k]? = some x/\¬ good k x:=by
  apply Classical.byContradiction;intro hn;exact h λk x hk=>Classical.byContradiction λhg=>hn ⟨k,x,hk,hg⟩
 obtain ⟨k,hk⟩:=hex
 induction k using Nat.strongRecOn with
 | _ k ih=>
  by_cases h:∃ j,j<k/\∃ x,l[j]? = some x/\¬ good j x
  ·obtain ⟨j,hj,hx⟩:=h;exact ih j hj hx
  ·obtain ⟨x,hx,hb⟩:=hk;exact ⟨k,x,hx,hb,λj y hj hy=>Classical.byContradiction λhg=>h ⟨j,hj,y,hy,hg⟩⟩
end Go.Dn

namespace Go.Dn
open Go
theorem and3 (x:Int):iAnd .i64 x 3=x % 4:=by
 have h2:(BitVec.ofInt 64 3).toNat=2 ^ 2-1:=by decide
 have h:(BitVec.ofInt 64 x &&& BitVec.ofInt 64 3).toNat=(x % 18446744073709551616).toNat % 4:=by
  rw [BitVec.toNat_and,h2,Y0H,BitVec.toNat_ofInt]
  rfl
 show IntKind.i64.wrap _=_
 rw [Z21]
 have hb:(IntKind.i64.bits)=64:=rfl
 rw [hb,h]
 omega
theorem and15 (x:Int):iAnd .i64 x 15=x % 16:=by
 have h2:(BitVec.ofInt 64 15).toNat=2 ^ 4-1:=by decide
 have h:(BitVec.ofInt 64 x &&& BitVec.ofInt 64 15).toNat=(x % 18446744073709551616).toNat % 16:=by
  rw [BitVec.toNat_and,h2,Y0H,BitVec.toNat_ofInt]
  rfl
 show IntKind.i64.wrap _=_
 rw [Z21]
 have hb:(IntKind.i64.bits)=64:=rfl
 rw [hb,h]
 omega
theorem tdm (n b:Int) (hb:0<b):(0<=n/\n.tdiv b=n / b/\n.tmod b=n % b)\/(n<0/\n % b=0/\n.tdiv b=n / b/\n.tmod b=0)\/(n<0/\0<n % b/\n.tdiv b=n / b+1/\n.tmod b=n % b-b):=by
 have hm:0<=n % b:=Y03 n (by omega)
 have hs:b.sign=1:=Int.sign_eq_one_of_pos hb
 have hab:(b.natAbs:Int)=b:=Int.natAbs_of_nonneg (by omega)
 rcases Int.lt_or_le n 0 with h|h
 ·rw [Int.tdiv_eq_ediv,Int.tmod_eq_emod]
  by_cases h0:b∣n
  ·refine .inr (.inl ⟨h,Int.emod_eq_zero_of_dvd h0,?_,?_⟩)
   ·rw [if_pos (.inr h0)];omega
   ·rw [if_pos (.inr h0),Int.emod_eq_zero_of_dvd h0];rfl
  ·have:n % b≠0:=λe=>h0 (Int.dvd_of_emod_eq_zero e);refine .inr (.inr ⟨h,by omega,?_,?_⟩)
   ·rw [if_neg (by rintro (h1|h1);omega;exact h0 h1),hs]
   ·rw [if_neg (by rintro (h1|h1);omega;exact h0 h1),hab]
 ·exact .inl ⟨h,Y0Q h,Y0R h⟩
def Small (x:Int):Prop:=-4611686018427387904<=x/\x<=4611686018427387904
theorem Z1x {n b:Int} (hn:Small n) (hb:0<b) (hb2:b<=4611686018427387904):Z0U n b=some (n / b,n % b):=by
 unfold Small at hn
 have hq : -4611686018427387904<=n / b/\n / b<=4611686018427387904:=by
  have h1:=Int.ediv_mul_add_emod n b;have h2:=Y03 n (show b≠0 by omega)
  have h3:=Y0Z n hb
  constructor
  ·refine Int.not_lt.1 λh=>?_;have h4:n / b*b<=(-4611686018427387904-1)*b:=Y00 (by omega) (by omega)
   have h5:(-4611686018427387904-1)*b = -4611686018427387904*b-b:=by rw [Int.sub_mul,Int.one_mul]
   have h6:4611686018427387904*1<=4611686018427387904*b:=Y02 (by omega) (by omega)
   have h7 : -4611686018427387904*b = -(4611686018427387904*b):=by rw [Int.neg_mul]
   omega
  ·refine Int.not_lt.1 λh=>?_;have h4:(4611686018427387904+1)*b<=n / b*b:=Y00 (by omega) (by omega)
   have h5:(4611686018427387904+1)*b=4611686018427387904*b+b:=by rw [Int.add_mul,Int.one_mul]
   have h6:4611686018427387904*1<=4611686018427387904*b:=Y02 (by omega) (by omega)
   omega
 have hm:0<=n % b:=Y03 n (by omega)
 have hm2:n % b<b:=Y0Z n hb
 unfold Z0U
 rw [nz?_ok (by omega)]
 simp only [Y4]
 rcases tdm n b hb with ⟨_,h1,h2⟩|⟨_,h0,h1,h2⟩|⟨_,h0,h1,h2⟩
 ·rw [Z0R (by omega)]
  simp only [cond_false,Y4,h1,h2];rw [ZN (by omega)]
 ·rw [Z0R (by omega)]
  simp only [cond_false,Y4,h1,h2,h0];rw [ZN (by omega)]
 ·rw [Z0d (by omega)]
  simp only [cond_true,Y4,h1,h2];rw [ZN (x:=n / b+1) (by omega),ZN (x:=n / b+1-1) (by omega),ZN (x:=n % b-b+b) (by omega)]
  simp only [Int.add_sub_cancel,Int.sub_add_cancel]
def Bg (y:Int):Int:=365*(y-1)+(y-1) / 4-(y-1) / 100+(y-1) / 400-719162
def Lp (y:Int):Bool:=decide (y % 4=0)&&(decide (y % 100≠0)||decide (y % 400=0))
def Up (y:Int) (k:Nat):Int:=Z1E.getD k 0+(bif decide (2<=k)&&Lp y then 1 else 0)
theorem Z5w {y:Int} (hy : -100000<=y/\y<=100000):Z16 y=some (Bg y):=by
 unfold Z16 Bg
 have e1:w64 (y-1)=y-1:=ZN (by omega)
 rw [e1,Z1x (by unfold Small;omega) (by omega) (by omega),Z1x (by unfold Small;omega) (by omega) (by omega),Z1x (by unfold Small;omega) (by omega) (by omega)]
 simp only [Y4]
 rw [ZN (x:=365*(y-1)) (by omega),ZN (x:=365*(y-1)+(y-1) / 4) (by omega),ZN (x:=365*(y-1)+(y-1) / 4-(y-1) / 100) (by omega),ZN (x:=365*(y-1)+(y-1) / 4-(y-1) / 100+(y-1) / 400) (by omega),ZN (by omega)]
theorem civil_Leap_eq (y:Int):Z1U y=Lp y:=by
 unfold Z1U Lp
 rw [and3,and15]
 have e:(y % 4=0/\(y.tmod 25≠0\/y % 16=0))↔(y % 4=0/\(y % 100≠0\/y % 400=0)):=by
  rcases tdm y 25 (by omega) with ⟨_,_,h⟩|⟨_,_,_,h⟩|⟨_,_,_,h⟩<;>rw [h]<;>omega
 rw [Bool.eq_iff_iff]
 simp only [YD,Yf,beq_iff_eq,bne_iff_ne,ne_eq,decide_eq_true_eq]
 exact e
theorem glob_at {k:Nat} (hk:k<=12):at? Z1E (k:Int)=some (Z1E.getD k 0)/\0<=Z1E.getD k 0/\Z1E.getD k 0<=365:=by
 match k,hk with
 | 0,_|1,_|2,_|3,_|4,_|5,_|6,_|7,_|8,_|9,_|10,_|11,_|12,_=>exact ⟨rfl,by decide,by decide⟩
 | k+13,h=>omega
theorem Up_bd (y:Int) {k:Nat} (hk:k<=12):0<=Up y k/\Up y k<=366:=by
 have:=(glob_at hk).2
 unfold Up
 cases decide (2<=k)&&Lp y<;>simp only [cond_true,cond_false]<;>omega
theorem Z2N (y:Int) {k:Nat} (hk:k<=12):Z0y y (k:Int)=some (Up y k):=by
 unfold Z0y
 have hb:=Up_bd y hk
 rw [(glob_at hk).1,Y4]
 have e:Z1E.getD k 0+Z22 y (k:Int)=Up y k:=by
  unfold Z22 Up;rw [civil_Leap_eq,show decide ((k:Int)>=2)=decide (2<=k) from decide_eq_decide.2 (by omega)]
 rw [e,ZN (by omega)]
theorem Z1o (y:Int) {k:Nat} (h1:1<=k) (hk:k<=12):Z0p y (k:Int)=some (Up y k-Up y (k-1)):=by
 have hb:=Up_bd y hk
 have hb':=Up_bd y (show k-1<=12 by omega)
 unfold Z0p
 rw [Z0R (by omega),Z0R (by omega)]
 simp only [Bool.or_false,cond_false]
 rw [ZN (x:=(k:Int)-1) (by omega),show (k:Int)-1=((k-1:Nat):Int) by omega,Z2N y hk,Z2N y (by omega)]
 simp only [Y4]
 rw [ZN (by omega)]
theorem Bg_bd {y:Int} (hy : -100000<=y/\y<=100000) : -40000000<=Bg y/\Bg y<=40000000:=by
 unfold Bg;omega
theorem Z3u {y mo d:Int} (hd : -9223372036854775808<=d/\d<=9223372036854775807) (hm : -9223372036854775808<=mo/\mo<=9223372036854775807):Z03 y mo d=some (0,30)\/∃ k:Nat,mo=k/\1<=k/\k<=12/\-9999<=y/\y<=9999/\1<=d/\d<=Up y k-Up y (k-1)/\Z03 y mo d=some (Bg y+Up y (k-1)+d-1,0):=by
 by_cases h0:y < -9999\/y>9999\/d<1
 ·refine .inl ?_;unfold Z03;have:((decide (y<(-9999))||decide (y>9999))||decide (d<1))=true:=by
   simp only [Yf,decide_eq_true_eq];omega
  rw [this]
  rfl
 ·have hf:((decide (y<(-9999))||decide (y>9999))||decide (d<1))=false:=by
   simp only [Bool.or_eq_false_iff,decide_eq_false_iff_not];omega
  by_cases h1:mo<1\/mo>12
  ·refine .inl ?_;unfold Z03 Z0p;have:(decide (mo<1)||decide (mo>12))=true:=by
    simp only [Yf,decide_eq_true_eq];omega
   rw [hf,this];simp only [cond_false,cond_true,Y4];rw [Z0d (by omega)]
   rfl
  ·obtain ⟨k,rfl⟩ : ∃ k:Nat,mo=k:=⟨mo.toNat,by omega⟩
   have hb:=Up_bd y (show k<=12 by omega)
   have hb':=Up_bd y (show k-1<=12 by omega)
   have hB:=Bg_bd (y:=y) (by omega)
   by_cases h2:d<=Up y k-Up y (k-1)
   ·refine .inr ⟨k,rfl,by omega,by omega,by omega,by omega,by omega,h2,?_⟩
    unfold Z03;rw [hf,Z1o y (by omega) (by omega)]
    simp only [cond_false,Y4];rw [Z0R (by omega)]
    simp only [cond_false];rw [Z5w (by omega),ZN (x:=(k:Int)-1) (by omega),show (k:Int)-1=((k-1:Nat):Int) by omega,Z2N y (by omega)]
    simp only [Y4];rw [ZN (x:=Up y (k-1)+d) (by omega),ZN (x:=Up y (k-1)+d-1) (by omega),ZN (by omega)]
    congr 2
    omega
   ·refine .inl ?_;unfold Z03;rw [hf,Z1o y (by omega) (by omega)]
    simp only [cond_false,Y4];rw [Z0d (by omega)]
    rfl
def Dy (m:Int):Int:=Bg (1970+m / 12)+Up (1970+m / 12) (m % 12).toNat
theorem Dy_bd {m:Int} (hm : -1000000<=m/\m<=1000000) : -50000000<=Dy m/\Dy m<=50000000:=by
 have h1:=Bg_bd (y:=1970+m / 12) (by omega)
 have h2:=Up_bd (1970+m / 12) (k:=(m % 12).toNat) (by omega)
 unfold Dy;omega
theorem Up_pos (y:Int) (k:Nat) (hk:k<12):1<=Up y (k+1)-Up y k:=by
 have h:∀ j,j<12->28<=Z1E.getD (j+1) 0-Z1E.getD j 0:=by decide
 have:=h k hk
 unfold Up
 cases h1:decide (2<=k)&&Lp y<;>cases h2:decide (2<=k+1)&&Lp y<;>simp only [cond_true,cond_false]<;>omega
theorem Z37 {m:Int} (h0:0<=m) (h1:m<=4800):Z0q m=some (Dy m):=by
 unfold Z0q
 by_cases h:m=4800
 ·subst h
  rfl
 ·rw [beq_f h];simp only [cond_false];obtain ⟨k,hk⟩ : ∃ k:Nat,m % 12=k:=⟨(m % 12).toNat,by omega⟩
  have hb:=Up_pos (1970+m / 12) k (by omega)
  rw [Y0Q h0,Y0R h0,ZN (x:=m / 12) (by omega),ZN (by omega),ZN (x:=m % 12+1) (by omega)]
  rcases Z3u (y:=1970+m / 12) (mo:=m % 12+1) (d:=1) (by omega) (by omega) with h2|⟨k',e,_,_,_,_,_,_,h2⟩
  ·exfalso
   have:=Z1o (1970+m / 12) (k:=k+1) (by omega) (by omega)
   rw [hk,show (k:Int)+1=((k+1:Nat):Int) by omega] at h2
   unfold Z03 at h2;have hf:((decide (1970+m / 12<(-9999))||decide (1970+m / 12>9999))||decide ((1:Int)<1))=false:=by
    simp only [Bool.or_eq_false_iff,decide_eq_false_iff_not];omega
   rw [hf,this] at h2;simp only [cond_false,Y4,Nat.add_sub_cancel] at h2;rw [Z0R (by omega)] at h2
   simp only [cond_false] at h2;obtain ⟨_,_,h2⟩:=bind_some h2;obtain ⟨_,_,h2⟩:=bind_some h2;simp at h2
  ·rw [h2,Y4];have:k'-1=k:=by omega
   unfold Dy;rw [this,hk]
   congr 1
   simp only [Int.toNat_natCast];omega
def Mo (n N:Nat):Form:=⟨146097,N,(List.range N).map λi=>[⟨Dy ((i*n:Nat):Int),Dy ((i*n:Nat)+n:Int)-1⟩],[]⟩
def Z06:Nat->Form
 | 0|1=>⟨1,1,[[⟨0,0⟩]],[]⟩
 | 2=>⟨7,1,[[⟨-3,3⟩]],[]⟩
 | 3=>Mo 1 4800
 | 4=>Mo 3 1600
 | _=>Mo 12 400
theorem Z1m {n N:Nat} (hn:1<=n) (hN:n*N=4800):ZX (n:Int)=some (Mo n N):=by
 have hN':N<=4800:=by
  have:=YQ N hn;omega
 have hn':n<=4800:=by
  rcases Nat.eq_zero_or_pos N with h|h
  ·subst h;omega
  ·have:=Nat.mul_le_mul_left n h;omega
 unfold ZX
 rw [nz?_ok (by omega),Y4]
 have hd:w64 ((4800:Int).tdiv n)=(N:Int):=by
  rw [Y0Q (by omega),show (4800:Int)=((n*N:Nat):Int) by omega,show (((n*N:Nat):Int) / (n:Int))=((n*N / n:Nat):Int) from rfl,Nat.mul_div_cancel_left N (by omega),ZN (by omega)]
 have hl:loopO (ZX.s0 (n:Int)) (0,[])=some ((Mo n N).Core,(N:Int)):=by
  refine Z1L (I:=λ(s:Int×List (List Span)) r=>r=((Mo n N).Core,(N:Int))/\∃ k:Nat,s=((k:Int),(List.range k).map λi=>[⟨Dy ((i*n:Nat):Int),Dy ((i*n:Nat)+n:Int)-1⟩])/\k<=N) (λs=>N-s.1.toNat) ?_ ⟨rfl,0,rfl,Y0I _⟩;rintro s r ⟨rfl,k,rfl,hk⟩;unfold ZX.s0;rw [hd]
  by_cases hlt:k<N
  ·refine .inl ⟨_,?_,⟨rfl,k+1,rfl,hlt⟩,by simp;omega⟩
   have hkn:(k+1)*n<=4800:=by
    rw [<- hN,Nat.mul_comm n N];exact YQ n hlt
   have hkn':(k+1)*n=k*n+n:=Y0c k n;have e1:(k:Int)*(n:Int)=((k*n:Nat):Int):=by push_cast;rfl
   have hD:=Dy_bd (m:=((k*n:Nat):Int)+n) (by omega)
   simp only;rw [Z0d (by omega)]
   simp only [cond_true];rw [e1,ZN (x:=((k*n:Nat):Int)) (by omega),ZN (x:=((k*n:Nat):Int)+n) (by omega),Z37 (by omega) (by omega),Z37 (by omega) (by omega)]
   simp only [Y4];rw [ZN (x:=Dy (((k*n:Nat):Int)+n)-1) (by omega),app?_ok (by simp [room_eq];omega),Y4,ZN (by omega),List.range_succ,Y09]
   simp
  ·obtain rfl:k=N:=by omega
   refine .inr ?_;simp only;rw [Z0R (by omega)]
   rfl
 rw [hl]
 rfl
theorem basis_made_eq {j:Nat} (hj:j<6):Z0n (j:Int)=some (Z06 j):=by
 match j,hj with
 | 0,_=>rfl
 | 1,_=>rfl
 | 2,_=>rfl
 | 3,_=>
  unfold Z0n;have:=Z1m (n:=1) (N:=4800) (by omega) rfl
  simp only [show ((3:Nat):Int)=3 from rfl,show ((3:Int)==0)=false from rfl,show ((3:Int)==1)=false from rfl,show ((3:Int)==2)=false from rfl,show ((3:Int)==3)=true from rfl,cond_false,cond_true,Y4];rw [show ZX 1=some (Mo 1 4800) from this]
  rfl
 | 4,_=>
  unfold Z0n;have:=Z1m (n:=3) (N:=1600) (by omega) rfl
  simp only [show ((4:Nat):Int)=4 from rfl,show ((4:Int)==0)=false from rfl,show ((4:Int)==1)=false from rfl,show ((4:Int)==2)=false from rfl,show ((4:Int)==3)=false from rfl,show ((4:Int)==4)=true from rfl,cond_false,cond_true,Y4];rw [show ZX 3=some (Mo 3 1600) from this]
  rfl
 | 5,_=>
  unfold Z0n;have:=Z1m (n:=12) (N:=400) (by omega) rfl
  simp only [show ((5:Nat):Int)=5 from rfl,show ((5:Int)==0)=false from rfl,show ((5:Int)==1)=false from rfl,show ((5:Int)==2)=false from rfl,show ((5:Int)==3)=false from rfl,show ((5:Int)==4)=false from rfl,cond_false,Y4,Jx.elim];rw [show ZX 12=some (Mo 12 400) from this]
  rfl
end Go.Dn
