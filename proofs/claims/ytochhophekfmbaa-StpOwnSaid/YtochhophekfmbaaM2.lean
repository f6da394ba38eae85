/- Part 2 of what the row stands on. -/
import Derived.Below
import Derived.ChangeArms
import Derived.ChangeOld
import Derived.SizedLaws
import Derived.KernelRfl
import Derived.Test.YtochhophekfmbaaProg
import Derived.Test.YtochhophekfmbaaM1
set_option linter.unusedVariables false
set_option linter.unusedSimpArgs false
namespace Go.Dn
open Go Go.ChangeShapes
def consec (P:Program):Nat->List Field->Option Nat
 | o,[]=>some o
 | o,f::fs=>if f.offset=o then consec P (o+P.cellsOf f.type) fs else none
def supp (P:Program):Nat->TypeId->Bool
 | 0,_=>false
 | d+1,t=>
  match P.underlying t with
  | some .bool=>P.cellsOf t==1
  | some (.int _)=>P.cellsOf t==1
  | some .string=>P.cellsOf t==1
  | some (.slice e)=>P.cellsOf t==1&&P.cellsOf e != 0&&supp P d e
  | some (.struct fs)=>fs.toList.all (λf=>supp P d f.type)&&(consec P 0 fs.toList==some (P.cellsOf t))
  | _=>false
def OKC (P:Program):Nat->TypeId->List FV->Prop
 | 0,_,_=>False
 | d+1,t,ys=>
  match P.underlying t with
  | some .bool=>∃ b,ys=[.bool b]
  | some (.int k)=>∃ m,ys=[.int k m]/\(Lit.int k m).wf=true
  | some .string=>∃ s,ys=[.str s]/\s.size<=maxLen
  | some (.slice e)=>∃ xs,ys=[.sl xs]/\xs.length*P.bytesOf e<=reachBytes/\∀ x∈xs,OKC P d e x
  | some (.struct fs)=>ys.length=P.cellsOf t/\∀ f∈fs.toList,OKC P d f.type ((ys.drop f.offset).take (P.cellsOf f.type))
  | _=>False
section
variable {H:Type} {enc:TypeId×Value->H} {P:Program} {w:World} {base:Nat} {spare:Nat->Bool} {held:Bool} {Im:Nat->Prop}
def Cov (w:World) (Im:Nat->Prop) (ys:List FV) (cs:List Value):Prop:=ys.length=cs.length/\∀ (i:Nat) (y:FV) (v:Value),ys[i]? = some y->cs[i]? = some v->FVR w Im y v
theorem Cov.one {y:FV} {v:Value} (h:FVR w Im y v):Cov w Im [y] [v]:=⟨rfl,λi y' v' hy hv=>by
 cases i with
 | zero=>cases hy;cases hv;exact h
 | succ i=>simp at hy⟩
theorem consec_le:∀ {fs:List Field} {o m:Nat},consec P o fs=some m->o<=m
 | [],o,m,h=>by simp [consec] at h;omega
 | f::fs,o,m,h=>by
  simp only [consec] at h
  split at h
  ·have:=consec_le h;omega
  ·cases h
theorem fields_ok {d n:Nat} {cs:List Value} (ih:∀ (t:TypeId) (cs:List Value) (x:DataW H×List MemPlace),supp P d t=true->DataW.trod enc P w base spare held n t cs=some x->(∀ p∈x.2,Im p.block)->(∀ n∈x.1.weights P t,n<=reachBytes)->∃ ys,Cov w Im ys cs/\OKC P d t ys) :
  ∀ (fs:List Field) (o m:Nat),consec P o fs=some m->m<=cs.length->(∀ f∈fs,supp P d f.type=true) ->
   (∀ f∈fs,∃ x,DataW.trod enc P w base spare held n f.type ((cs.drop f.offset).take (P.cellsOf f.type))=some x/\(∀ p∈x.2,Im p.block)/\∀ n∈x.1.weights P f.type,n<=reachBytes) ->
   ∃ ys,Cov w Im ys ((cs.drop o).take (m-o))/\∀ f∈fs,o<=f.offset/\OKC P d f.type ((ys.drop (f.offset-o)).take (P.cellsOf f.type))
 | [],o,m,hc,hm,_,_=>by
  simp [consec] at hc;subst hc;exact ⟨[],⟨by simp,by simp⟩,by simp⟩
 | f::fs,o,m,hc,hm,hs,hx=>by
  simp only [consec] at hc
  split at hc
  ·rename_i ho;subst ho;obtain ⟨x,hx1,hx2,hx3⟩:=hx f YW;obtain ⟨ys,⟨hl,hv⟩,hok⟩:=ih f.type _ x (hs f YW) hx1 hx2 hx3;have hle:=consec_le hc;obtain ⟨zs,⟨hl2,hv2⟩,hok2⟩:=fields_ok ih fs _ m hc hm (λg hg=>hs g (YT _ hg)) (λg hg=>hx g (YT _ hg));simp only [Yj,List.length_drop] at hl hl2;have hy:ys.length=P.cellsOf f.type:=by omega
   refine ⟨ys++zs,⟨by simp only [YR,Yj,List.length_drop];omega,λi y v h1 h2=>?_⟩,λg hg=>?_⟩
   ·by_cases hi:i<ys.length
    ·rw [YH hi] at h1;refine hv i y v h1 ?_;rw [YD] at h2 ⊢;rw [if_pos (by omega)] at h2 ⊢
     exact h2
    ·rw [YG (by omega)] at h1
     have hi2:i-ys.length<zs.length:=by
      rcases Yh (i-ys.length) zs.length with h|h
      ·exact h
      ·rw [Yv h] at h1;cases h1
     refine hv2 (i-ys.length) y v h1 ?_;rw [YD,YQ] at h2 ⊢;rw [if_pos (by omega)] at h2 ⊢
     rw [<- h2]
     congr 1;omega
   ·rcases List.mem_cons.1 hg with rfl|hg
    ·refine ⟨Y8 _,?_⟩;rw [Nat.sub_self,List.drop_zero,List.take_append_of_le_length (by omega),Yi (by omega)]
     exact hok
    ·obtain ⟨h1,h2⟩:=hok2 g hg;refine ⟨by omega,?_⟩
     have:(ys++zs).drop (g.offset-f.offset)=zs.drop (g.offset-(f.offset+P.cellsOf f.type)):=by
      rw [List.drop_append,List.drop_eq_nil_of_le (by omega),List.nil_append]
      congr 1;omega
     rw [this];exact h2
  ·cases hc
theorem Z4K {e:TypeId}:∀ {ds:List (DataW H)} {d:DataW H},d∈ds->∀ n∈d.weights P e,n∈DataW.weightsAll P e ds
 | d0::ds,d,h,n,hn=>by
  simp only [DataW.weightsAll,YO];rcases List.mem_cons.1 h with rfl|h
  ·exact .inl hn
  ·exact .inr (Z4K h n hn)
def Sized (P:Program) (t:TypeId) (d:DataW H):Prop:=∀ n∈d.weights P t,n<=reachBytes
theorem OKC.length:∀ {d:Nat} {t:TypeId} {ys:List FV},supp P d t=true->OKC P d t ys->ys.length=P.cellsOf t
 | 0,t,ys,h,_=>by simp [supp] at h
 | d+1,t,ys,h,ho=>by
  unfold supp at h;unfold OKC at ho
  split at h
  all_goals (rename_i hu;simp only [hu] at ho)
  ·obtain ⟨b,rfl⟩:=ho;simp at h;simp [h]
  ·obtain ⟨b,rfl,_⟩:=ho;simp at h;simp [h]
  ·obtain ⟨b,rfl,_⟩:=ho;simp at h;simp [h]
  ·obtain ⟨b,rfl,_⟩:=ho;simp at h;simp [h]
  ·exact ho.1
theorem trod_ok:∀ (d n:Nat) (t:TypeId) (cs:List Value) (x:DataW H×List MemPlace),supp P d t=true->DataW.trod enc P w base spare held n t cs=some x->(∀ p∈x.2,Im p.block)->(∀ n∈x.1.weights P t,n<=reachBytes)->∃ ys,Cov w Im ys cs/\OKC P d t ys
 | 0,n,t,cs,x,hs,h,hp,hw=>by simp [supp] at hs
 | d+1,n,t,cs,x,hs,h,hp,hw=>by
  unfold supp at hs
  split at hs
  ·rename_i hu;cases n with
   | zero=>simp [DataW.trod] at h
   | succ n=>
    simp only [DataW.trod,hu] at h
    split at h<;>simp_all
    rename_i b;exact ⟨[.bool b],Cov.one (.bool b),by simp [OKC,hu]⟩
  ·rename_i k hu;cases n with
   | zero=>simp [DataW.trod] at h
   | succ n=>
    simp only [DataW.trod,hu] at h
    split at h<;>try (simp_all;done)
    rename_i k2 m he1 ;simp only [Y4,TypeDesc.int.injEq] at he1;subst he1
    split at h
    ·rename_i k' n' hk;obtain ⟨rfl,hwf⟩:=hk;exact ⟨[.int _ _],Cov.one (.int _ _),by simp [OKC,hu,hwf]⟩
    ·cases h
  ·rename_i hu;cases n with
   | zero=>simp [DataW.trod] at h
   | succ n=>
    simp only [DataW.trod,hu] at h
    split at h<;>try (simp_all;done)
    split at h
    ·rename_i s hk;exact ⟨[.str _],Cov.one (.str _),by simp [OKC,hu,hk]⟩
    ·cases h
  ·rename_i e hu;simp only [Y7,beq_iff_eq,bne_iff_ne,ne_eq] at hs;rcases DataW.trod_slice hu h with ⟨rfl,rfl⟩|⟨a,len,cap,elems,rest,m,rfl,rfl,rfl,hb,hl,hm,hlen,hel,hsp,hns⟩
   ·exact ⟨[.sl []],Cov.one .nil,by simp [OKC,hu]⟩
   ·by_cases h0:len=0
    ·subst h0;exact ⟨[.sl []],Cov.one (.empty a cap),by simp [OKC,hu]⟩
    ·have each:∀ i,i<len->∃ cs' ys,w.cells? base (a.add (i*P.cellsOf e)) (P.cellsOf e)=some cs'/\Cov w Im ys cs'/\OKC P d e ys:=by
      intro i hi;have h1:=hel i hi;obtain ⟨y,hy⟩ : ∃ y,elems[i]? = some y:=⟨_,Y6 (by omega)⟩
      rw [hy,Y2] at h1;obtain ⟨cs',hcs,ht⟩:=h1;obtain ⟨ys,h2,h3⟩:=trod_ok d m e cs' y hs.2 ht (λp hpm=>hp p (by
       refine Yl _ (List.mem_flatMap.2 ⟨y,Yo _ (YC hy),hpm⟩))) (λn hn=>hw n (by
       simp only [DataW.weights,hu,List.mem_cons,YO];exact .inr (.inl (Z4K (List.mem_map.2 ⟨y,YC hy,rfl⟩) n hn))))
      exact ⟨cs',ys,hcs,h2,h3⟩
     let F:Nat->List FV:=λi=>if hi:i<len then (each i hi).choose_spec.choose else []
     let C:Nat->List Value:=λi=>if hi:i<len then (each i hi).choose else []
     have hF:∀ i,i<len->w.cells? base (a.add (i*P.cellsOf e)) (P.cellsOf e)=some (C i)/\Cov w Im (F i) (C i)/\OKC P d e (F i):=by
      intro i hi;simp only [F,C,dif_pos hi];exact (each i hi).choose_spec.choose_spec
     have hFl:∀ i,i<len->(F i).length=P.cellsOf e:=λi hi=>OKC.length hs.2 (hF i hi).2.2;have hxs:∀ y∈(List.range len).map F,∃ i,i<len/\y=F i:=λy hy=>by
      obtain ⟨i,hi,rfl⟩:=List.mem_map.1 hy;exact ⟨i,List.mem_range.1 hi,rfl⟩
     refine ⟨[.sl ((List.range len).map F)],Cov.one ?_,?_⟩
     ·by_cases hz:P.cellsOf e=0
      ·exact absurd hz hs.1.2
      ·have hsp0:a.spot=none:=by
        have h1:=(World.cells?_some (hF 0 (by omega)).1).2.2 0 (by omega)
        have hl0:=(World.cells?_some (hF 0 (by omega)).1).2.1
        simp only [Nat.zero_mul,Addr.add,if_true] at h1;unfold World.cell? at h1
        split at h1
        ·split at h1
         ·have:(C 0)[0]? = none:=h1.symm;rw [List.getElem?_eq_none_iff] at this;omega
         ·rename_i hq;simpa using hq
        ·have:(C 0)[0]? = none:=h1.symm;rw [List.getElem?_eq_none_iff] at this;omega
       obtain ⟨bl,off,spot⟩:=a;simp only at hsp0;subst hsp0;have hcov:=FVR.sl (w:=w) (Imm:=Im) ((List.range len).map F) bl off cap (P.cellsOf e) (λi j=>(C i).getD j Go.undef) ?_ (by simpa using hl) (λy hy=>by
        obtain ⟨i,hi,rfl⟩:=hxs y hy;exact hFl i hi) (λi j hi hj=>?_) (λi j y x h1 h2=>?_)
       ·simpa using hcov
       ·refine hp (.cell bl (off+0)) (Yo _ ?_);simp only [MemPlace.row,List.mem_map,Y00];refine ⟨0,?_,rfl⟩;exact Nat.mul_pos (by omega) (by omega)
       ·simp only [Ys,List.length_range] at hi;have h1:=(World.cells?_some (hF i hi).1).2.2 j hj;have hl0:=(World.cells?_some (hF i hi).1).2.1;have e1:(Addr.add (Addr.add ⟨bl,off,none⟩ (i*P.cellsOf e)) j)=⟨bl,off+i*P.cellsOf e+j,none⟩:=by
         simp only [Z0e]
        rw [e1] at h1;rw [h1,Y6 (by omega)]
        simp [List.getD,Y6 (show j<(C i).length by omega)]
       ·rw [YI,Y0] at h1;obtain ⟨i',hi',rfl⟩:=h1;have hi2:=List.mem_range.1 (YC hi');have:i'=i:=by
         rw [List.getElem?_eq_some_iff] at hi';obtain ⟨q1,q2⟩:=hi'
         simpa using q2.symm
        subst this;have hj:j<(C i').length:=by
         rw [<- (hF i' hi2).2.1.1];exact (List.getElem?_eq_some_iff.1 h2).1
        refine (hF i' hi2).2.1.2 j x _ h2 ?_;rw [Y6 hj];simp [List.getD,Y6 hj]
     ·simp only [OKC,hu];refine ⟨_,rfl,?_,λy hy=>?_⟩
      ·have h1:=hw ((elems.length+rest.length)*P.bytesOf e) (by simp [DataW.weights,hu])
       refine YM (YK _ ?_) h1
       simp;omega
      obtain ⟨i,hi,rfl⟩:=hxs y hy;exact (hF i hi).2.2
  ·rename_i fs hu;simp only [Y7,beq_iff_eq,YB] at hs;obtain ⟨xs,m,rfl,rfl,hl,hx,hf⟩:=DataW.trod_struct hu h;obtain ⟨ys,hc,ho⟩:=fields_ok (cs:=cs) (λt cs x h1 h2 h3 h4=>trod_ok d m t cs x h1 h2 h3 h4) fs.toList 0 (P.cellsOf t) hs.2 (by omega) hs.1 (λf hfm=>by
    obtain ⟨i,hi⟩:=List.getElem?_of_mem hfm;have hi':fs[i]? = some f:=by simpa using hi
    have h1:=hf i f hi';have hlt:i<xs.length:=by
     have:=(Array.getElem?_eq_some_iff.1 hi').1;omega
    rw [Y6 hlt] at h1;exact ⟨_,h1,λp hpm=>hp p (List.mem_flatMap.2 ⟨_,Y02 hlt,hpm⟩),λn hn=>hw n (by
     simp only [DataW.weights,hu];exact DataW.weights_mem_each (j:=i) (t:=f.type) (d:=(xs[i]).1) (by simp [hi]) (by simp [hlt]) n hn)⟩)
   rw [List.drop_zero,Nat.sub_zero,Yi (by omega)] at hc
   refine ⟨ys,hc,?_⟩;simp only [OKC,hu];exact ⟨hc.1.trans hl,λf hfm=>by simpa using (ho f hfm).2⟩
  ·cases hs
end
def okI (k:IntKind) (x:Int):Prop:=k.min<=x/\x<=k.max
def okB (_:Bool):Prop:=True
def okS (x:ByteArray):Prop:=x.size<=maxLen
def okL {α:Type} (b:Nat) (p:α->Prop) (xs:List α):Prop:=xs.length*b<=reachBytes/\∀ x∈xs,p x
def Dec (P:Program) {α:Type} (t:TypeId) (c:α->List FV) (ok:α->Prop):Prop:=∀ d ys,OKC P d t ys->∃ x,ys=c x/\ok x
section
variable {P:Program} {t e:TypeId}
theorem Dec.int {k:IntKind} (h:P.underlying t=some (.int k)):Dec P t (cI k) (okI k):=λd ys ho=>by
 cases d with
 | zero=>exact ho.elim
 | succ d=>
  simp only [OKC,h] at ho;obtain ⟨m,rfl,hw⟩:=ho;exact ⟨m,rfl,by simpa [Lit.wf,okI] using hw⟩
theorem Dec.bool (h:P.underlying t=some .bool):Dec P t cB okB:=λd ys ho=>by
 cases d with
 | zero=>exact ho.elim
 | succ d=>
  simp only [OKC,h] at ho;obtain ⟨m,rfl⟩:=ho;exact ⟨m,rfl,trivial⟩
theorem Dec.str (h:P.underlying t=some .string):Dec P t cS okS:=λd ys ho=>by
 cases d with
 | zero=>exact ho.elim
 | succ d=>
  simp only [OKC,h] at ho;obtain ⟨m,rfl,hw⟩:=ho;exact ⟨m,rfl,hw⟩
theorem Dec.sl {α:Type} {c:α->List FV} {ok:α->Prop} {b:Nat} (h:P.underlying t=some (.slice e)) (hb:P.bytesOf e=b) (he:Dec P e c ok):Dec P t (cL c) (okL b ok):=λd ys ho=>by
 cases d with
 | zero=>exact ho.elim
 | succ d=>
  simp only [OKC,h] at ho;obtain ⟨xs,rfl,hl,hx⟩:=ho;have:∀ xs:List (List FV),(∀ x∈xs,OKC P d e x)->∃ as_:List α,xs=as_.map c/\∀ a∈as_,ok a:=by
   intro xs
   induction xs with
   | nil=>intro _;exact ⟨[],rfl,by simp⟩
   | cons x xs ih=>
    intro hx;obtain ⟨a,rfl,ha⟩:=he d x (hx x YW);obtain ⟨as_,rfl,has⟩:=ih λy hy=>hx y (YT _ hy);exact ⟨a::as_,rfl,λb hb=>by
     rcases List.mem_cons.1 hb with rfl|hb
     ·exact ha
     ·exact has b hb⟩
  obtain ⟨as_,rfl,has⟩:=this xs hx;exact ⟨as_,rfl,by subst hb;simpa using hl,has⟩
theorem fld (ys:List FV) (o s:Nat):(ys.drop o).take s++ys.drop (o+s)=ys.drop o:=by
 rw [<- List.drop_drop];exact List.take_append_drop s (ys.drop o)
theorem fld_nil {ys:List FV} {n:Nat} (h:ys.length=n):ys.drop n=[]:=List.drop_eq_nil_of_le (by omega)
end
theorem pvr_one {P:Program} {t:TypeId} {W:World} {base:Nat} {v:Value} {s:St} {y:FV} (hu:(match P.underlying t with|some .bool|some (.int _)|some .string|some (.slice _)=>true|_=>false)=true) (hval:Value.okWide P W .any base t v) (hs:s.w=W) (hc:Cov W s.imm [y] v.cells.toList):PVR s (.v y) v:=by
 subst hs
 have hv:v.cells.toList=[v]:=by
  unfold Value.okWide Cell.okWide Cell.ok at hval
  split at hu
  all_goals (first|(rename_i h1;rw [h1] at hval)|skip)
  ·cases v<;>first|rfl|exact hval.elim
  ·cases v<;>first|rfl|exact hval.elim
  ·cases v<;>first|rfl|exact hval.elim
  ·cases v<;>first|rfl|exact hval.elim
  ·cases hu
 rw [hv] at hc
 exact .v (hc.2 0 y v rfl rfl)
end Go.Dn

namespace Go.Dn
open Go
def cloneA (t b : TypeId) : Code := .region 0 #[{ dst := some 2, op := .assign (.const (.slice none 0 0)), type := t, pos := "slices.go:355", after := #[], guard := none }] false
def Z0x (t b : TypeId) : Array Oper := #[{ dst := some 3, op := .move (.tmp 0), type := t, pos := "slices.go:357", after := #[], guard := none },
 { dst := some 4, op := .binOp .eql t (.tmp 3) (.const (.slice none 0 0)) t, type := b, pos := "slices.go:357", after := #[{ on := 0, ground := .data }], guard := none }]
def cloneC (t : TypeId) : Code := .cond (.tmp 4) ((Code.region 2 #[{ dst := some 2, op := .assign (.const (.slice none 0 0)), type := t, pos := "slices.go:358", after := #[], guard := none }] false).seq .ret) .skip
def cloneD (t:TypeId):Code:=(Code.region 3
 #[{ dst := some 5, op := .buildSlice t 0 #[], type := t, pos := "slices.go:362", after := #[], guard := none },
  { dst := some 6, op := .move (.tmp 0), type := t, pos := "slices.go:362", after := #[], guard := none },
  { dst := some 7, op := .call { callee := .builtin .append, args := #[.tmp 5, .tmp 6], argTypes := #[t, t] }, type := t, pos := "slices.go:362", after := #[{ on := 0, ground := .data }, { on := 1, ground := .data }], guard := none },
  { dst := some 2, op := .assign (.tmp 7), type := t, pos := "slices.go:362", after := #[{ on := 2, ground := .data }, { on := 2, ground := .chain }, { on := 0, ground := .phase }, { on := 1, ground := .phase }, { on := 2, ground := .phase }], guard := none }] false).seq .ret
def cloneBody (t b:TypeId):Code:=(cloneA t b).seq (((Code.region 1 (Z0x t b) false).seq (cloneC t)).seq (cloneD t))
structure CloneT (P:Program) (t el:TypeId) (sz by_:Nat) (zs:List PV):Prop where
 ht:tslice P t=some el
 hs:tsize P el=some sz
 hb:tbytes P el=some by_
 hz:tzero P el=some zs
 hc:(sz != 0&&by_ != 0&&zs.length==sz)=true
variable {X:Ctx} {fn:FuncId} {t b el:TypeId} {sz by_:Nat} {zs:List PV}
theorem cloneD_runs (hT:CloneT X.P t el sz by_ zs) {xs:List (List FV)} (hl:xs.all (λy=>y.length==sz)=true) (hroom:xs.length*by_<=room) {e:Env} {G:Heap} (h0:e 0 = .v (.sl xs)) :
  Runs X 8 fn (cloneD t) e G λx e' G'=>x = .ret/\∃ (lo hi:Nat) (L:List Res) (k:Nat),Has G' lo hi L/\L[k]? = some (.sl (e' 2) el sz xs true):=by
 have hc:=hT.hc
 simp only [Y7,beq_iff_eq,bne_iff_ne,ne_eq] at hc
 have H:Hs G []:=Has.nil (Y8 _)
 obtain ⟨e0,rfl⟩:=(show Z2U e [(0,.v (.sl xs))] from ⟨h0,trivial⟩).ex
 show Runs X 8 fn (Code.seq _ _) _ _ _
 apply Runs.then
 refine Runs.regionH 4 rfl H ?_;intro b1 G H
 refine Ops.buildS (zs:=zs) (sz:=sz) (pp:=[]) [] H (by omega) (by omega) hT.ht rfl hT.hs hT.hz (by simp only [Y7,beq_iff_eq,bne_iff_ne,ne_eq];exact ⟨⟨hc.2,hc.1.1⟩,by simp⟩) rfl rfl rfl rfl ?_;intro G H
 refine Ops.move (v:=.v (.sl xs)) rfl rfl ?_
 refine Ops.appendS (v:=.buf (b1+0) 0 sz) (w:=.v (.sl xs)) (xs:=[]) (ys:=xs) H (by omega) (by omega) 0 rfl rfl rfl (.p hl) hT.ht hT.hs hT.hb hT.hz hT.hc (by simpa using hroom) nofun rfl ?_;intro w G H
 refine Ops.assign (v:=w) rfl rfl ?_
 apply Ops.nil
 apply Runs.ret
 exact ⟨rfl,_,_,_,0,H,rfl⟩
theorem cloneOps_wp {s:St} {e:Env} {a:Act} (hX:CtxOK X) (hG:ZZ X s) (hi:Inv s) (he:EnvR s 8 e a) (hT:CloneT X.P t el sz by_ zs) {xs:List (List FV)} (h0:e 0 = .v (.sl xs)) {Q:Exit->Act->World->Prop}
  (hQ:∀ (o:Option Addr) (a':Act) (w':World) (D':Nat->Nat),(o=none->xs=[])->Then s 8 a (putD 8 (putD 8 e (some 3) (.v (.sl xs))) (some 4) (.v (.bool o.isNone))) ⟨s.G.nx+2,s.G.ent⟩ a' w' D'->Q .normal a' w') :
  (Code.region 1 (Z0x t b) false).wp X.P Q a s.w:=by
 refine (wpIn_wide (n:=0)).1 (wpIn_region ?_)
 have hi':=Z2X hi 2
 have he':=he.mono (Z0N (s:=s) 2)
 have hG':=hG.mono (Z0N (s:=s) 2)
 have st : Zj X (Zm X) 8 (Z0x t b) s.G.nx 0 { dst := some 3, op := .move (.tmp 0), type := t, pos := "slices.go:357", after := #[], guard := none } e (s.more 2).G = some (putD 8 e (some 3) (.v (.sl xs)), (s.more 2).G) := by
  simp only [Zj,ZJ,Z4,Z0,h0,YA,Y3]
 have first:=stepO_ok (m:=0) (Q:=Q) (rd:=none) (s:=s.more 2) (a:=a) (callL_ok hX) hG' hi' he' (hi.nx _ (by omega)) (by simp only [St.more];omega) st (K:=wpOpsIn (Fw none) 0 X.P (Z0x t b) Q [1]) ?_
 ·have h0' : (Z0x t b)[0]? = some { dst := some 3, op := .move (.tmp 0), type := t, pos := "slices.go:357", after := #[], guard := none } := rfl
  have hr:List.range (Z0x t b).size=[0,1]:=rfl;rw [hr];simp only [wpOpsIn,h0'];exact first
 ·intro a1 w1 D1 ht;have hn := ht.env;have hw : Region.wanted ⟨some 4, .binOp .eql t (.tmp 3) (.const (.slice none 0 0)) t, b, "slices.go:357", #[{ on := 0, ground := .data }], none⟩ (yielded (Z0x t b) a1.tmps) = true := rfl
  have h1' : (Z0x t b)[1]? = some ⟨some 4, .binOp .eql t (.tmp 3) (.const (.slice none 0 0)) t, b, "slices.go:357", #[{ on := 0, ground := .data }], none⟩ := rfl
  simp only [wpOpsIn,h1'];rw [if_pos hw];have hp:PVR ⟨w1,(s.more 2).Y,(s.more 2).G,D1⟩ (.v (.sl xs)) (a1.eval (.tmp 3)):=by
   refine Z1 (X:=X) (hG.mono ((Z0N (s:=s) 2).trans ht.ev)) hn ?_;simp [Z0,putD,upd]
  obtain ⟨o, cap, hv, hcap, hf⟩ := sl_inv hp;have hs : ∀ o4 : Oper, o4 = ⟨some 4, .binOp .eql t (.tmp 3) (.const (.slice none 0 0)) t, b, "slices.go:357", #[{ on := 0, ground := .data }], none⟩ → o4.uponIn (Fw none) 0 X.P a1 (Z2H ⟨w1, (s.more 2).Y, (s.more 2).G, D1⟩ a1 (some 4) (.v (.bool o.isNone)) (s.more 2).G) Q ((o4.semAt (Fw none).round a1.eval).run X.P w1) := by
   intro o4 ho4;have hop:o4.op = .binOp .eql t (.tmp 3) (.const (.slice none 0 0)) t:=by rw [ho4]
   have hd4:o4.dst=some 4:=by rw [ho4]
   rw [Oper.semAt_eq _ _ _ (by intro c hc;rw [hop] at hc;cases hc)]
   simp only [execOp,hop];rw [<- hd4];refine Z02 (s:=⟨w1,(s.more 2).Y,(s.more 2).G,D1⟩) ht.inv ?_;rw [hv];have hg:(eqGuard .eql t (.tmp 3) (.const (.slice none 0 0)) (.slice o xs.length cap) (.slice none 0 0)).run X.P w1 = .ok () w1:=by simp [eqGuard]
   refine ⟨.bool o.isNone,?_,.v (.bool _)⟩;show (do eqGuard .eql t (.tmp 3) (.const (.slice none 0 0)) (.slice o xs.length cap) (.slice none 0 0);binOp .eql t (.slice o xs.length cap) (.slice none 0 0):Sem Value).run X.P w1=_;simp only [Sem.run_bind,hg,Result.andThen_ok];exact (Z1P (eqNil 9999 (Zr hT.ht) o xs.length cap w1) (.inr (.inr ⟨_,_,_,_,_,_,rfl,rfl⟩))).1
  refine Oper.wpIn_mono (K:=Z2H ⟨w1,(s.more 2).Y,(s.more 2).G,D1⟩ a1 (some 4) (.v (.bool o.isNone)) (s.more 2).G) (λa' w' hh=>?_) ⟨λ_ _=>trivial,hs _ rfl⟩;obtain ⟨v,rfl,D',h2,h3,h4⟩:=hh;refine hQ o _ w' D' (λho=>?_) ⟨h2,((Z0N (s:=s) 2).trans ht.ev).trans h3,(hn.mono h3).put h4,(Z33 _ _ _).trans ht.defers⟩
  subst ho;generalize hz:Value.slice none xs.length cap=z at hf;cases hf with
  | nil=>rfl
  | empty=>rfl
  | sl=>cases hz
theorem clone_calls (hX:CtxOK X) {f:FuncId} {fu:Func} (hf:X.P.funcs[f]? = some fu) (hb:fu.body=some (cloneBody t b)) (hn:fu.ntmps=8) (hr:fu.results = #[.tmp 2]) (hg:∀ g,X.glob g=none)
  (hT:CloneT X.P t el sz by_ zs) {s:St} (hi:Inv s) {xs:List (List FV)} {v:Value} (hl:xs.all (λy=>y.length==sz)=true) (hroom:xs.length*by_<=room) (hv:PVR s (.v (.sl xs)) v) :
  Calls X.P f #[v] s.w λen w'=>∃ v',en = .returned v'/\Post s (.v (.sl xs)) s.G v' w':=by
 have hv1:PVRs s.under [.v (.sl xs)] #[v]:=⟨rfl,λi x hx=>by
  cases i with
  | zero=>cases hx;exact Z3n rfl hv
  | succ i=>simp at hx⟩
 have hiu:=Z3q hi
 have he:=env_of (s:=s.under) (k:=8) hv1
 have hG:∀ s,ZZ X s:=λs g cells h=>by rw [hg] at h;cases h
 refine (callsIn_wide (n:=0)).1 (callsIn_of_wp_marks hf hb trivial ?_ rfl)
 rw [hn]
 refine wpIn_wide.2 ?_
 have fin:∀ e G a' w D (G3:Heap),Aft s.under 8 { tmps:=#[v]++Array.replicate (8-(#[v] : Array Value).size) undef,defers:=[] } e G a' w D->Zk G (e 2)=some (.v (.sl xs),G3) ->
   bodyPostM Fence.wide 0 X.P fu (λen w'=>∃ v',en = .returned v'/\Post s (.v (.sl xs)) s.G v' w') .ret a' w:=by
  intro e G a' w D G3 ht h4;refine leaves_ok (X:=X) (fu:=fu) (xs:=[e 2]) rfl ht (by rw [hr];rfl) λv w' hp=>⟨v,rfl,?_⟩
  exact Z4S hi hp h4
 refine wp_seq ?_
 refine wp_mono (code_wp (X:=X) (s:=s.under) hX (fn:=f) (hG _) hiu he (Q:=λex e' G'=>ex = .normal/\e' 0 = .v (.sl xs)) ?_) ?_
 ·show Runs X 8 f (Code.region 0 (List.toArray [_]) false) _ ⟨0,λ_=>.none⟩ _;refine Runs.region rfl ?_;refine Ops.assign (v:=.nils) rfl rfl ?_;exact Ops.nil ⟨rfl,rfl⟩
 rintro ex a1 w1 ⟨x1,e1,G1,D1,⟨rfl,k0⟩,rfl,ht1⟩
 simp only [Ex.out,Exit.then]
 refine wp_seq (wp_seq ?_)
 refine cloneOps_wp (s:=⟨w1,s.under.Y,G1,D1⟩) hX (hG _) ht1.inv ht1.env hT k0 ?_
 intro o a2 w2 D2 ho ht2
 have ht12:=ht1.trans ht2.aft
 simp only [Exit.then]
 generalize he2:putD 8 (putD 8 e1 (some 3) (.v (.sl xs))) (some 4) (.v (.bool o.isNone))=e2 at ht2 ht12
 have q0:e2 0 = .v (.sl xs):=by rw [<- he2];simpa [putD,upd] using k0
 have q4:e2 4 = .v (.bool o.isNone):=by rw [<- he2];simp [putD,upd]
 refine wp_mono (code_wp (X:=X) (s:=⟨w2,s.under.Y,⟨G1.nx+2,G1.ent⟩,D2⟩) hX (fn:=f) (hG _) ht2.inv ht2.env (Q:=λex e' G'=>(xs=[]/\ex = .ret/\e' 2 = .nils)\/(ex = .normal/\e' 0 = .v (.sl xs))) ?_) ?_
 ·cases o with
  | none=>
   refine Runs.yes (by simp only [Z0,q4];rfl) ?_
   refine Runs.then ?_;refine Runs.region (l:=[_]) rfl ?_;refine Ops.assign (v:=.nils) rfl rfl ?_;refine Ops.nil ?_;refine Runs.ret ?_;exact .inl ⟨ho rfl,rfl,rfl⟩
  | some o=>
   refine Runs.no (by simp only [Z0,q4];rfl) ?_
   exact Runs.skip (.inr ⟨rfl,q0⟩)
 rintro ex a3 w3 ⟨x3,e3,G3,D3,hq,rfl,ht3⟩
 have ht13:=ht12.trans ht3
 rcases hq with ⟨rfl,rfl,k2⟩|⟨rfl,k3⟩
 ·simp only [Ex.out,Exit.then];exact fin e3 G3 a3 w3 D3 G3 ht13 (by rw [k2];rfl)
 ·simp only [Ex.out,Exit.then];refine wp_mono (code_wp (X:=X) (s:=⟨w3,s.under.Y,G3,D3⟩) hX (fn:=f) (hG _) ht3.inv ht3.env (cloneD_runs hT hl hroom k3)) ?_;rintro ex a4 w4 ⟨x4,e4,G4,D4,⟨rfl,lo,hi4,L,k,H4,hk⟩,rfl,ht4⟩;obtain ⟨G5,q,_⟩:=expR_ok H4 (ExpR.one (.c (.s k hk)));exact fin e4 G4 a4 w4 D4 G5 (ht13.trans ht4) q
end Go.Dn

namespace Go.Dn
open Go
def pdOf:Ex->Option Code
 | .normal=>none
 | .exit t=>some (.exit t)
 | .ret=>some .ret
theorem Runs.env {X:Ctx} {n:Nat} {fn:FuncId} {c:Code} {e:Env} {G:Heap} {Q:Ex->Env->Heap->Prop} (l:List (Nat×PV)) (he:Z2U e l) (h:∀ e0,Runs X n fn c (sets e0 l) G Q):Runs X n fn c e G Q:=by
 obtain ⟨e0,rfl⟩:=he.ex
 exact h e0
section
variable {X:Ctx}
def YldH (X:Ctx) (id:Nat) {S T:Type} (C:S->List Res->Prop) (pvT:T->List PV) (y:S->T->Option (S×Bool)):Prop :=
 ∀ s t s' b,y s t=some (s',b)->∀ G lo hi O L,C s L->Has G lo hi (O++L)->∃ G' L',Zm X (.yld id) (pvT t) G=some (.v (.bool b),G')/\C s' L'/\Hs G' (O++L')
def ItF (X:Ctx) (f:FuncId) (args:List PV) {S:Type} (C:S->List Res->Prop) (s s':S):Prop :=
 ∀ G L,C s L->Hs G L->∃ G' L',Zm X (.fn f) args G=some (.tup [],G')/\C s' L'/\Hs G' L'
structure EndsI {S:Type} (C:S->List Res->Prop) (s:S) (x:Ex) (e:Env) (G:Heap):Prop where
 out:(x = .normal\/x = .ret)/\∃ L,C s L/\Hs G L
theorem EndsI.H {S:Type} {C:S->List Res->Prop} {s:S} {x:Ex} {e:Env} {G:Heap} {lo hi:Nat} {L L0:List Res} (hx:x = .normal\/x = .ret) (H:Has G lo hi L) (k:Nat) (hk:L.drop k=L0) (hC:C s L0):EndsI C s x e G :=
 ⟨hx,L0,hC,(hk▸H.drop k:Has G lo hi L0).all⟩
theorem ItF.of {f:FuncId} {args:List PV} {S:Type} {C:S->List Res->Prop} {s s':S} {fu:Func} {c:Code} {m:Nat} (hf:X.P.funcs[f]? = some fu) (hb:fu.body=some c) (hr:fu.results = #[]) (hi:X.intr f args=none) (hk:X.keep f=false) (ho:X.opn f=false) (hs:args.all PV.still=true)
  (hp:args.all PV.pure=false) (hm:max fu.ntmps args.length=m) (h:∀ G L,C s L->Hs G L->Runs X m f c (Z2E args) G (EndsI C s')):ItF X f args C s s':=by
 subst hm
 intro G L hC H
 obtain ⟨lf,x,e',G1,h1,hE⟩:=(h G L hC H).run
 obtain ⟨hx,L',hC',H'⟩:=hE.out
 refine ⟨G1,L',Z0X (lf:=lf) ?_,hC',H'⟩
 have hbody:Zx X (Zm X) lf f args G=some (.tup [],G1):=by
  simp only [Zx,hf,hb,h1];rcases hx with rfl|rfl<;>simp [hr,ZP,Z09]
 simp only [Z1S,hi,hk,Bool.false_and,Y9,if_false,Z1g hs,ho,hp,hbody,Y3]
 rfl
section
variable {n:Nat} {dr:Bool} {fn:FuncId} {ops:Array Oper} {base i:Nat} {l:List Oper} {e:Env} {G:Heap} {K:Env->Heap->Prop} {Q:Ex->Env->Heap->Prop}
variable {d:Nat} {t:TypeId} {p:String} {af:Array Edge} {x:Operand} {lo hi:Nat} {L:List Res}
end
def RangeC (id:Nat) (fn:FuncId) (e:Env) (n:Nat) (ps:List Nat) (as_ bo:Code) {S:Type} (Co:S->List Res->Prop) (pd:Nat->Option Code):S×Nat->List Res->Prop :=
 λs L=>∃ M,Co s.1 M/\L = .loop id fn e n ps as_ bo (if s.2=0 then .ready else .done) (pd s.2)::M
variable {n:Nat} {fn:FuncId} {e:Env} {G:Heap} {Q:Ex->Env->Heap->Prop}
def BodyOK (X:Ctx) (n:Nat) (fn:FuncId) (e:Env) (ps:List Nat) (as_ bo:Code) {S T:Type} (Co:S->List Res->Prop) (pvT:T->List PV) (yb:S->T->Option (S×Nat)) (pd:Nat->Option Code):Prop :=
 ∀ (R0 R1:Res) s t s' p,yb s t=some (s',p)->∀ G M O,Co s M->Hs G (R0::(M++O)) ->
  Runs X n fn as_ (Z0s e n ps (pvT t)) G λx e1 G1=>x = .normal/\∃ M1,Hs G1 (R0::(M1++O)) /\
   ∀ G2,Hs G2 (R1::(M1++O))->Runs X n fn bo e1 G2 λx e2 G3=>(pdOf x=pd p/\(x = .normal↔p=0))/\∃ M2,Co s' M2/\Hs G3 (R1::(M2++O))
theorem callO_of {f:FuncId} {args:List PV} {fu:Func} {c:Code} {m:Nat} {G:Heap} {Post:PV->Heap->Prop} (hf:X.P.funcs[f]? = some fu) (hb:fu.body=some c) (hi:X.intr f args=none) (hk:X.keep f=false) (ho:X.opn f=true) (hp:args.all PV.pure=true) (hm:max fu.ntmps args.length=m)
  (h:Runs X m f c (Z2E args) G λx e G'=>(x = .normal\/x = .ret)/\∃ xs,ZP X.P e G' fu.results.toList=some xs/\Post (Z09 xs) G'):∃ r G',Zm X (.fn f) args G=some (r,G')/\Post r G':=by
 subst hm
 obtain ⟨lf,x,e',G1,h1,hx,xs,h2,h3⟩:=h.run
 refine ⟨Z09 xs,G1,Z0X (lf:=lf) ?_,h3⟩
 have hbody:Zx X (Zm X) lf f args G=some (Z09 xs,G1):=by
  simp only [Zx,hf,hb,h1];rcases hx with rfl|rfl<;>simp only [h2,YA]
 simp only [Z1S,hi,hk,Y9,if_false,Z19 hp,ho,if_true,hbody]
end
end Go.Dn

namespace Go.Dn
open Go
theorem Has.mem {G:Heap} {lo hi:Nat} {L:List Res} (H:Has G lo hi L):∀ r∈L,r.holds G/\∀ id,r.owner=some id->(id<lo\/hi<=id)/\id<G.nx:=λr hr=>by
 obtain ⟨k,hk⟩:=List.getElem?_of_mem hr
 exact ⟨H.holds k r hk,H.lt k r hk⟩
abbrev Apart (r s:Res):Prop:=∀ id,r.owner=some id->s.owner≠some id
def holes (lo hi:Nat):List Res:=.floor hi::(List.range (hi-lo)).map λj=>.hole (lo+j)
section
variable {X:Ctx} {f:FuncId} {fu:Func} {c:Code} {m:Nat} {G:Heap} {cv:PV} {ys args:List PV} {L:List Res} {PostA:PV->List Res->Prop}
def CallI (X:Ctx) (cv:PV) (ys:List PV) (G:Heap) (T:List Res) (PostA:PV->List Res->Prop):Prop:=∃ r G' A,callV X cv ys G=some (r,G')/\PostA r A/\Hs G' (A++T)
theorem callIO_of (hf:X.P.funcs[f]? = some fu) (hb:fu.body=some c) (hcv:∀ G,callV X cv ys G=Zm X (.fn f) args G) (hi:X.intr f args=none) (hk:X.keep f=false) (ho:X.opn f=true) (hp:args.all PV.pure=true) (hm:max fu.ntmps args.length=m) {T:List Res}
  (h:Runs X m f c (Z2E args) G λx e G'=>(x = .normal\/x = .ret)/\∃ xs,ZP X.P e G' fu.results.toList=some xs/\∃ A,PostA (Z09 xs) A/\Hs G' (A++T)):CallI X cv ys G T PostA:=by
 obtain ⟨r,G',h1,A,h2,h3⟩:=callO_of (Post:=λr G'=>∃ A,PostA r A/\Hs G' (A++T)) hf hb hi hk ho hp hm h
 exact ⟨r,G',A,by rw [hcv];exact h1,h2,h3⟩
end
section
variable {X:Ctx} {n:Nat} {dr:Bool} {fn:FuncId} {ops:Array Oper} {base i:Nat} {l:List Oper} {e:Env} {G:Heap} {K:Env->Heap->Prop}
variable {d:Nat} {t t1:TypeId} {p:String} {af:Array Edge} {x:Operand} {lo hi:Nat} {L:List Res}
theorem Sub.more {C L M:List Res} (h:Sub C L):Sub C (L++M):=by
 induction h with
 | nil=>exact .nil
 | cons k h t ih=>
  refine .cons k ?_ ih;rw [YH (List.getElem?_eq_some_iff.1 h).1,h]
def FnO (X:Ctx) (f:FuncId) (args:List PV) (PostA:PV->List Res->Prop):Prop:=∀ G T,Hs G T->CallI X (.v (.fn f)) args G T PostA
theorem FnO.of {f:FuncId} {fu:Func} {c:Code} {m:Nat} {args:List PV} {PostA:PV->List Res->Prop} (hf:X.P.funcs[f]? = some fu) (hb:fu.body=some c) (hi:X.intr f args=none) (hk:X.keep f=false) (ho:X.opn f=true) (hp:args.all PV.pure=true) (hm:max fu.ntmps args.length=m)
  (h:∀ G T,Hs G T->Runs X m f c (Z2E args) G λx e G'=>(x = .normal\/x = .ret)/\∃ xs,ZP X.P e G' fu.results.toList=some xs/\∃ A,PostA (Z09 xs) A/\Hs G' (A++T)):FnO X f args PostA :=
 λG T H=>callIO_of hf hb (λ_=>rfl) hi hk ho hp hm (h G T H)
inductive ExpP:List Res->List (Nat×PV)->List (Nat×PV)->List Res->Prop
 | nil {L:List Res}:ExpP L [] [] L
 | keep {L L':List Res} {j:Nat} {x:PV} {ps qs:List (Nat×PV)} (h:needF x=false) (t:ExpP L ps qs L'):ExpP L ((j,x)::ps) ((j,x)::qs) L'
 | exp {L L1 L2:List Res} {j:Nat} {x y:PV} {ps qs:List (Nat×PV)} (h:ExpV L x y L1) (t:ExpP L1 ps qs L2):ExpP L ((j,x)::ps) ((j,y)::qs) L2
def FrzOK (ops:Array Oper) (base i:Nat) (pp:List (Nat×PV)):Prop :=
 Z27 (Region.before ops) ops i=true\/∃ ms:List Nat,(pp.flatMap λp=>Z1k p.2)=ms.map (base+·) /\
  (ms.all λm=>Nat.blt m ops.size&&((Region.before ops).getD i 0).testBit m&&(List.range ops.size).all λj=>!(unord (Region.before ops) i j&&((Region.before ops).getD j 0).testBit m))=true
end
theorem loopD_up (step step':Env->Heap->Option Out) (hst:∀ e G r,step e G=some r->step' e G=some r) (j j':Nat) (hj:j<=j') (e:Env) (G:Heap) (r:Out) (h:Z00 step j e G=some r):Z00 step' j' e G=some r:=by
 induction j generalizing j' e G r with
 | zero=>simp [Z00] at h
 | succ j ihj=>
  obtain ⟨j',rfl⟩ : ∃ i,j'=i+1:=⟨j'-1,by omega⟩
  simp only [Z00] at h ⊢
  split at h
  ·rename_i h1;rw [hst _ _ _ h1];exact ihj j' (by omega) _ _ _ h
  ·rename_i hn;rw [hst _ _ _ h]
   split
   ·rename_i heq;rw [h] at hn;cases heq;exact absurd rfl (hn _ _)
   ·rfl
theorem Runs.again {X:Ctx} {n:Nat} {fn:FuncId} {c:Code} {e:Env} {G:Heap} {Q:Ex->Env->Heap->Prop} (h:Runs X n fn c e G (Then' (λe G=>Runs X n fn (.loop c) e G Q) Q)):Runs X n fn (.loop c) e G Q:=by
 obtain ⟨l1,x,e1,G1,h1,h2⟩:=h.run
 cases x with
 | normal=>
  obtain ⟨l2,y,e2,G2,h3,h4⟩:=Runs.run h2;refine ⟨max l1 l2+1,y,e2,G2,?_,h4⟩;simp only [Z2] at h3 ⊢;simp only [Z00,Z06 (show l1<=max l1 l2+1 by omega) h1]
  exact loopD_up _ _ (λe G r h=>Z06 (show l2<=max l1 l2+1 by omega) h) l2 _ (by omega) _ _ _ h3
 | exit id=>
  refine ⟨l1+1,_,e1,G1,?_,h2⟩;simp only [Z2,Z00,Z06 (show l1<=l1+1 by omega) h1]
 | ret=>
  refine ⟨l1+1,_,e1,G1,?_,h2⟩;simp only [Z2,Z00,Z06 (show l1<=l1+1 by omega) h1]
end Go.Dn

namespace Go.Dn
open Go
section
variable {X:Ctx} {n:Nat} {fn:FuncId} {ops:Array Oper} {base i:Nat} {l:List Oper} {e:Env} {G:Heap} {K:Env->Heap->Prop}
variable {d:Nat} {t t1:TypeId} {p:String} {af:Array Edge} {x y z:Operand} {lo hi k:Nat} {L:List Res}
end
theorem Ops.na {X:Ctx} {n:Nat} {dr:Bool} {ops:Array Oper} {base i:Nat} {e:Env} {G:Heap} {K:Env->Heap->Prop} {lo hi:Nat} {L:List Res} (H:Has G lo hi L) (h:Hs G L->K e G):Ops X n dr ops base i [] e G K:=.nil (h H.all)
section
variable {X:Ctx} {n:Nat} {dr:Bool} {ops:Array Oper} {base i:Nat} {l:List Oper} {e:Env} {G:Heap} {K:Env->Heap->Prop}
variable {d:Nat} {t t1:TypeId} {p:String} {af:Array Edge} {x y z:Operand} {lo hi k:Nat} {L:List Res}
end
end Go.Dn

namespace Go.Dn
open Go
def Res.solid:Res->Bool
 | .hole _=>false
 | _=>true
def star (G:Heap):Res->Res
 | .hole id=>.fix id (G.ent id)
 | r=>r
theorem Z4Y {G:Heap} {r:Res}:(star G r).owner=r.owner:=by cases r<;>rfl
theorem star_holds {G:Heap} {r:Res} (h:r.holds G):(star G r).holds G:=by cases r<;>first|exact h|exact rfl
theorem solid_star {G:Heap} {r:Res} (h:r.solid=true):star G r=r:=by cases r<;>first|rfl|cases h
section
variable {G:Heap} {lo hi:Nat} {L C:List Res}
theorem Has.star (H:Has G lo hi L):Has G G.nx G.nx (L.map (star G)):=by
 refine ⟨λk r h=>?_,λk r h id ho=>?_,λj k r s hjk h1 h2 id ho=>?_,Y8 _⟩
 ·rw [YI,Y0] at h;obtain ⟨q,hq,rfl⟩:=h;exact star_holds (H.holds k q hq)
 ·rw [YI,Y0] at h;obtain ⟨q,hq,rfl⟩:=h;rw [Z4Y] at ho;have:=(H.lt k q hq id ho).2;exact ⟨.inl this,this⟩
 ·rw [YI,Y0] at h1 h2;obtain ⟨q,hq,rfl⟩:=h1;obtain ⟨q',hq',rfl⟩:=h2;rw [Z4Y] at ho ⊢;exact H.sep j k q q' hjk hq hq' id ho
theorem Has.add (H:Has G G.nx G.nx L) {id:Nat} (hl:id<G.nx) (hn:∀ r∈L,r.owner≠some id):Has G G.nx G.nx (.fix id (G.ent id)::L):=by
 refine ⟨λj s h=>?_,λj s h id' ho2=>?_,λi j s t hij h1 h2 id' hs=>?_,H.le⟩
 ·cases j with
  | zero=>cases h;exact rfl
  | succ j=>exact H.holds j s h
 ·cases j with
  | zero=>cases h;cases ho2;exact ⟨.inl hl,hl⟩
  | succ j=>exact H.lt j s h id' ho2
 ·cases i with
  | zero=>
   cases h1;cases hs;cases j with
   | zero=>exact absurd rfl hij
   | succ j=>exact hn t (YC h2)
  | succ i=>
   cases j with
   | zero=>
    cases h2;intro e;cases e;exact hn s (YC h1) hs
   | succ j=>exact H.sep i j s t (λe=>hij (by rw [e])) h1 h2 id' hs
def fixL (G:Heap) (L:List Res):Nat->List Res
 | 0=>L.map (star G)
 | k+1=>if (fixL G L k).any (λr=>r.owner==some k) then fixL G L k else .fix k (G.ent k)::fixL G L k
theorem Sub.star {C L:List Res} (h:Sub C L):C.all Res.solid=true->Sub C (L.map (star G)):=by
 induction h with
 | nil=>intro _;exact .nil
 | cons k h t ih=>
  intro hs;simp only [YV,Y7] at hs;exact .cons k (by rw [YI,h,YA,solid_star hs.1]) (ih hs.2)
end
section
variable {X:Ctx} {n:Nat} {dr:Bool} {fn:FuncId} {ops:Array Oper} {base i:Nat} {l:List Oper} {e:Env} {G:Heap} {K:Env->Heap->Prop}
variable {d:Nat} {t:TypeId} {p:String} {af:Array Edge} {x:Operand} {lo hi:Nat} {L C:List Res}
end
inductive FzC (L:List Res):PV->FV->Prop
 | v (y:FV):FzC L (.v y) y
 | n:FzC L .nils (.sl [])
 | ro {v:PV} {xs:List (List FV)} (h:RO v xs):FzC L v (.sl xs)
 | s {v:PV} {et:TypeId} {sz:Nat} {xs:List (List FV)} (k:Nat) (h:L[k]? = some (.sl v et sz xs false)):FzC L v (.sl xs)
inductive FzCs (L:List Res):List PV->List FV->Prop
 | nil:FzCs L [] []
 | cons {x:PV} {y:FV} {xs:List PV} {ys:List FV} (h:FzC L x y) (t:FzCs L xs ys):FzCs L (x::xs) (y::ys)
inductive FzV (L:List Res):PV->PV->Prop
 | c {x:PV} {y:FV} (h:FzC L x y):FzV L x (.v y)
 | a {xs:List PV} {ys:List FV} (h:FzCs L xs ys):FzV L (.agg xs) (.agg (vs ys))
 | p {x:PV} (h:x.pure=true):FzV L x x
inductive FzVs (L:List Res):List PV->List PV->Prop
 | nil:FzVs L [] []
 | cons {x y:PV} {xs ys:List PV} (h:FzV L x y) (t:FzVs L xs ys):FzVs L (x::xs) (y::ys)
section
variable {G:Heap} {lo hi:Nat} {L:List Res}
end
def PV.one:PV->Bool
 | .v _=>true
 | .fptr _=>true
 | .ptr _ _ _=>true
 | .clo _ _ _=>true
 | .yld _=>true
 | _=>false
end Go.Dn

namespace Go.Dn
open Go
def cF (n:Nat):List FV:=[.fn n]
def tailsOK (ops:Array Oper):Nat->List Oper->Bool
 | _,[]=>true
 | k,o::l=>(o.after.all λe=>!Region.binds .any e||decide (e.on<k))&&(l.all λoj=>oj.after.any (λe=>Region.binds .any e&&e.on==k)||o.apart ops oj)&&tailsOK ops (k+1) l
section
variable {X:Ctx} {n:Nat} {dr:Bool} {ops:Array Oper} {base i:Nat} {l:List Oper} {e:Env} {G:Heap} {K:Env->Heap->Prop}
variable {d:Nat} {t t1:TypeId} {p:String} {af:Array Edge} {x y:Operand} {lo hi:Nat} {L:List Res}
end
end Go.Dn

namespace Go.Dn
open Go
theorem p2 {A B:Type} {a a':A} {b b':B} (h:(a,b)=(a',b')):a=a'/\b=b':=by cases h;exact ⟨rfl,rfl⟩
theorem p3 {A B C:Type} {a a':A} {b b':B} {c c':C} (h:(a,b,c)=(a',b',c')):a=a'/\b=b'/\c=c':=by cases h;exact ⟨rfl,rfl,rfl⟩
theorem p4 {A B C Dd:Type} {a a':A} {b b':B} {c c':C} {d d':Dd} (h:(a,b,c,d)=(a',b',c',d')):a=a'/\b=b'/\c=c'/\d=d':=by cases h;exact ⟨rfl,rfl,rfl,rfl⟩
theorem p5 {A B C Dd E:Type} {a a':A} {b b':B} {c c':C} {d d':Dd} {e e':E} (h:(a,b,c,d,e)=(a',b',c',d',e')):a=a'/\b=b'/\c=c'/\d=d'/\e=e':=by cases h;exact ⟨rfl,rfl,rfl,rfl,rfl⟩
def gOK (ops:Array Oper) (e:Env):Option (Nat×Bool)->Bool
 | none=>true
 | some (j,w)=>match (ops[j]?).bind (·.dst) with
  | some d=>match e d with
   | .v (.bool b)=>b==w
   | _=>false
  | none=>false
def skipN (ops:Array Oper) (n:Nat):Nat->List Oper->Env->Option (List Oper×Env)
 | 0,l,e=>some (l,e)
 | k+1,[],e=>none
 | k+1,o::l,e=>match o.guard with
  | some (j,w)=>match (ops[j]?).bind (·.dst) with
   | some g=>match e g with
    | .v (.bool b)=>bif b==w then none else match o.dst with
     | some d=>bif Nat.blt d n then skipN ops n k l (set e d .undef) else none
     | none=>skipN ops n k l e
    | .undef=>match o.dst with
     | some d=>bif Nat.blt d n then skipN ops n k l (set e d .undef) else none
     | none=>skipN ops n k l e
    | _=>none
   | none=>none
  | none=>none
section
variable {X:Ctx} {n:Nat} {dr:Bool} {fn:FuncId} {ops:Array Oper} {base i:Nat} {l:List Oper} {e:Env} {G:Heap} {K:Env->Heap->Prop} {Q:Ex->Env->Heap->Prop} {c a b:Code}
variable {d:Nat} {t t1 t2:TypeId} {p:String} {af:Array Edge} {x y:Operand} {v:PV} {lo hi:Nat} {L:List Res} {g:Option (Nat×Bool)} {dst:Option Tmp} {op:Op}
theorem Ops.gd (hg:gOK ops e g=true) (hk:Ops X n dr ops base i (⟨dst,op,t,p,af,none⟩::l) e G K):Ops X n dr ops base i (⟨dst,op,t,p,af,g⟩::l) e G K:=by
 cases g with
 | none=>exact hk
 | some q=>
  obtain ⟨j,w⟩:=q;simp only [gOK] at hg
  split at hg
  ·rename_i d hd
   split at hg
   ·rename_i b hb;have:b=w:=by simpa using hg
    subst this;exact .wanted hd hb hk
   ·cases hg
  ·cases hg
theorem Ops.ps {l':List Oper} {e':Env}:∀ (k:Nat) {i:Nat} {l:List Oper} {e:Env},skipN ops n k l e=some (l',e')->Ops X n dr ops base (i+k) l' e' G K->Ops X n dr ops base i l e G K
 | 0,i,l,e,h,hk=>by cases h;exact hk
 | k+1,i,[],e,h,hk=>by cases h
 | k+1,i,⟨dst,op,t,p,af,none⟩::l,e,h,hk=>by cases h
 | k+1,i,⟨dst,op,t,p,af,some (j,w)⟩::l,e,h,hk=>by
  rw [show i+(k+1)=i+1+k by omega] at hk
  simp only [skipN] at h
  split at h
  ·rename_i g hg
   split at h
   ·rename_i b hb;cases hw:b==w with
    | true=>rw [hw] at h;cases h
    | false=>
     rw [hw] at h;have hb':e g = .v (.bool (!w)):=by rw [hb];cases b<;>cases w<;>first|rfl|cases hw
     simp only [cond_false] at h;cases dst with
     | some d=>
      cases hd:Nat.blt d n with
      | false=>simp [hd] at h
      | true=>simp only [hd,cond_true] at h;exact .pass hg hb' hd (Ops.ps k h hk)
     | none=>exact .pass0 hg hb' (Ops.ps k h hk)
   ·rename_i hb;cases dst with
    | some d=>
     cases hd:Nat.blt d n with
     | false=>simp [hd] at h
     | true=>simp only [hd,cond_true] at h;exact .passU hg hb hd (Ops.ps k h hk)
    | none=>exact .pass0U hg hb (Ops.ps k h hk)
   ·cases h
  ·cases h
theorem Ops.m1 (v:PV) (h1:Z0 X e x=some v) (h:(Nat.blt d n,gOK ops e g)=(true,true)) (hk:Ops X n dr ops base (i+1) l (set e d v) G K):Ops X n dr ops base i (⟨some d,.move x,t,p,af,g⟩::l) e G K :=
 .gd (p2 h).2 (.move h1 (p2 h).1 hk)
theorem Ops.a1 (v:PV) (h1:Z0 X e x=some v) (h:(Nat.blt d n,gOK ops e g)=(true,true)) (hk:Ops X n dr ops base (i+1) l (set e d v) G K):Ops X n dr ops base i (⟨some d,.assign x,t,p,af,g⟩::l) e G K :=
 .gd (p2 h).2 (.assign h1 (p2 h).1 hk)
theorem Ops.alc {cs:List PV} (H:Has G lo hi L) (hz:tzero X.P t1=some cs) (hd:Nat.blt d n=true)
  (hk:∀ G',Has G' (base+i+1) hi (.blk (base+i) t1 cs::L)->Ops X n dr ops base (i+1) l (set e d (.ptr (base+i) cs.length 0)) G' K) (hlo:lo<=base+i:=by omega) (hhi:base+i<hi:=by omega) :
  Ops X n dr ops base i (⟨some d,.alloc t1,t,p,af,none⟩::l) e G K:=.allocH H hlo hhi hz hd hk
theorem Ops.bxc {cs:List PV} (H:Has G lo hi L) (hx:Z0 X e x=some v) (hc:v.cells=some cs) (hd:Nat.blt d n=true)
  (hk:∀ G',Has G' (base+i+1) hi (.blk (base+i) t1 cs::L)->Ops X n dr ops base (i+1) l (set e d (.ptr (base+i) cs.length 0)) G' K) (hlo:lo<=base+i:=by omega) (hhi:base+i<hi:=by omega) :
  Ops X n dr ops base i (⟨some d,.box t1 x,t,p,af,none⟩::l) e G K:=.boxH H hlo hhi hx hc hd hk
theorem so {ops:Array Oper} {base i id:Nat} {dr:Bool} (h:id<base) (h2:Z1n (Region.before ops) ops i=true:=by kernel_rfl):dr=true->Seen ops base i id false:=λ_=>.inl ⟨h,nofun,λ_=>h2⟩
theorem Fn.go {f:FuncId} {args:List PV} {r:PV} {fu:Func} {c:Code} (hf:X.P.funcs[f]? = some fu) (h:(fu.body,X.intr f args,X.keep f,X.opn f,args.all PV.pure)=(some c,none,false,false,true))
  (hr:∀ G,Hs G []->Runs X (max fu.ntmps args.length) f c (Z2E args) G (Ends X fu.results.toList r)):Fn X f args r:=by
 obtain ⟨h1,h2,h3,h4,h5⟩:=p5 h
 exact .ends hf h1 h2 h3 h4 h5 rfl (hr _ (Has.nil (Y8 _)))
end
end Go.Dn

namespace Go.Dn
open Go
def famL {α:Type} (rt:TypeId) (sz:Nat) (c:α->List FV):List PV->List (List α)->List Res
 | v::ids,r::x=>.sl v rt sz (r.map c) true::famL rt sz c ids x
 | _,_=>[]
section
variable {α:Type} {rt:TypeId} {sz:Nat} {c:α->List FV}
theorem get_lt {β:Type} {l:List β} {m:Nat} {a:β} (h:l[m]? = some a):m<l.length:=(List.getElem?_eq_some_iff.1 h).1
end
section
variable {G:Heap} {lo hi:Nat} {L T:List Res}
end
section
variable {X:Ctx} {n:Nat} {dr:Bool} {fn:FuncId} {ops:Array Oper} {base i:Nat} {l:List Oper} {e:Env} {G:Heap} {K:Env->Heap->Prop} {Q:Ex->Env->Heap->Prop}
variable {d:Nat} {t t1 t2:TypeId} {p:String} {af:Array Edge} {x y z:Operand} {v:PV} {lo hi:Nat} {L:List Res}
end
theorem fam_exp {α:Type} {rt:TypeId} {sz d:Nat} {c:α->List FV}:∀ {ids:List PV} {x:List (List α)} {G:Heap} {lo hi:Nat} {A T:List Res},ids.length=x.length->Has G lo hi (A++(famL rt sz c ids x++T)) ->
  ∃ G',ZG (ZD (d+2)) G ids=some (x.map (λr=>FV.sl (r.map c)),G')
 | [],[],G,lo,hi,A,T,_,H=>⟨G,rfl⟩
 | v::ids,r::x,G,lo,hi,A,T,hl,H=>by
  have hk:(A++(famL rt sz c (v::ids) (r::x)++T))[A.length]? = some (.sl v rt sz (r.map c) true):=by
   rw [YG (Y8 _),Nat.sub_self];rfl
  obtain ⟨hs,hv⟩:=H.sl hk;obtain ⟨G1,h1,H1⟩ : ∃ G1,ZD (d+2) G v=some (.sl (r.map c),G1)/\∃ lo hi,Has G1 lo hi ((A++[.sl v rt sz (r.map c) false])++(famL rt sz c ids x++T)):=by
   have e:∀ rr,(A++(famL rt sz c (v::ids) (r::x)++T)).set A.length rr=(A++[rr])++(famL rt sz c ids x++T):=λrr=>by
    rw [List.set_append_right _ _ (Y8 _),Nat.sub_self];simp [famL]
   rcases hv with ⟨rfl,h0⟩|⟨id,rfl,hb⟩
   ·refine ⟨G,by rw [h0];rfl,lo,hi,?_⟩
    have:=H.say hk (r':=.sl .nils rt sz (r.map c) false) ⟨hs,.inl ⟨rfl,h0⟩⟩ rfl
    rwa [e] at this
   ·refine ⟨G.put id (.blk rt (vs (r.map c).flatten) false),?_,lo,hi,?_⟩
    ·rw [Z2C hb (by rw [Z2g,Z0w hs]),Z46]
     simp only [Y3,Z2x hs]
    ·have:=H.put hk rfl (r':=.sl (.buf id (r.map c).length sz) rt sz (r.map c) false) ⟨hs,.inr ⟨id,rfl,Z28⟩⟩ rfl
     rwa [e] at this
  obtain ⟨lo1,hi1,H1⟩:=H1;obtain ⟨G2,h2⟩:=fam_exp (d:=d) (ids:=ids) (x:=x) (by simpa using hl) H1
  exact ⟨G2,by simp only [ZG,h1,Y3,h2,Y04]⟩
 | [],_::_,G,lo,hi,A,T,h,_=>by simp at h
 | _::_,[],G,lo,hi,A,T,h,_=>by simp at h
theorem chunk_one:∀ (l:List FV),chunk 1 l.length l=l.map λy=>[y]
 | []=>rfl
 | y::l=>by simp only [Yc,chunk,Y04];rw [<- chunk_one l];rfl
theorem mat_exp {α:Type} {rt et:TypeId} {sz id k m:Nat} {c:α->List FV} {ids:List PV} {x:List (List α)} {G:Heap} {lo hi:Nat} {L T:List Res} (H:Has G lo hi L) (hk:L[k]? = some (.blk id et ids)) (hL:L.drop (k+1)=famL rt sz c ids x++T) (hM:ids.length=x.length) (hm:ids.length=m) :
  ∃ G',ZD 6 G (.buf id m 1)=some (.sl (x.map λr=>[FV.sl (r.map c)]),G'):=by
 have hb:=H.blk hk
 have H2:=H.put hk rfl (r':=.hole id) (en:=.blk et ids false) trivial rfl
 have hlt:k<L.length:=get_lt hk
 have e:L.set k (.hole id)=(L.take k++[.hole id])++(famL rt sz c ids x++T):=by
  rw [List.set_eq_take_append_cons_drop,if_pos hlt,hL];simp
 rw [e] at H2
 obtain ⟨G',h⟩:=fam_exp (d:=3) hM H2
 refine ⟨G',?_⟩
 rw [Z2C hb (by rw [hm];omega)]
 have h':ZG (ZD 5) (G.put id (.blk et ids false)) ids=some (x.map (λr=>FV.sl (r.map c)),G'):=h
 rw [h']
 simp only [Y3]
 have:m=(x.map (λr=>FV.sl (r.map c))).length:=by rw [Ys];omega
 rw [this,chunk_one,List.map_map]
 rfl
theorem Ends.M {α:Type} {X:Ctx} {rs:List ResultVar} {rt et:TypeId} {sz id m:Nat} {c:α->List FV} {ids:List PV} {x:List (List α)} {e:Env} {G:Heap} {lo hi:Nat} {L T:List Res} {xs:List PV} {r:PV} {ex:Ex} (hx:ex = .normal\/ex = .ret) (H:Has G lo hi L) (k:Nat) (hk:L[k]? = some (.blk id et ids)) (hL:L.drop (k+1)=famL rt sz c ids x++T) (hM:ids.length=x.length) (hm:ids.length=m)
  (h:ZP X.P e G rs=some (.buf id m 1::xs)) (hp:xs.all PV.pure=true) (hr:Z09 (.v (.sl (x.map λr=>[FV.sl (r.map c)]))::xs)=r):Ends X rs r ex e G:=by
 obtain ⟨G',q⟩:=mat_exp H hk hL hM hm
 refine ⟨hx,_,G',h,?_⟩
 have q1:Zp G (.buf id m 1)=some (.v (.sl (x.map λr=>[FV.sl (r.map c)])),G'):=by
  show (ZD 6 G (.buf id m 1)).bind _=_;rw [q];rfl
 rw [<- hr]
 cases xs with
 | nil=>exact q1
 | cons y ys=>
  show (Zz G (.buf id m 1::y::ys)).bind _=_;simp only [Zz,q1,Y3];have:=Z21 (G:=G') hp;simp only [Zz] at this;rw [this]
  rfl
end Go.Dn

namespace Go.Dn
open Go
section
variable {X:Ctx} {f:FuncId} {args:List PV} {r:PV}
theorem FnO.intr {X:Ctx} {f:FuncId} {args:List PV} {r:PV} (hi:X.intr f args=some r) (hp:args.all PV.pure=true):FnO X f args (λq A=>q=r/\A=[]):=λG T H=>
 ⟨r,G,[],Z0X (lf:=0) (by simp only [Z1S,hi,hp,if_true]),⟨rfl,rfl⟩,H⟩
end
end Go.Dn

namespace Go.Dn
open Go
section
variable {X:Ctx} {n:Nat} {dr:Bool} {ops:Array Oper} {base i:Nat} {l:List Oper} {e:Env} {G:Heap} {K:Env->Heap->Prop}
variable {d:Nat} {t t1:TypeId} {p:String} {af:Array Edge} {x y:Operand} {lo hi:Nat} {L:List Res}
end
end Go.Dn

namespace Go.Dn
open Go
section
variable {G:Heap} {lo hi:Nat}
end
section
variable {X:Ctx} {n:Nat} {dr:Bool} {ops:Array Oper} {base i:Nat} {l:List Oper} {e:Env} {G:Heap} {K:Env->Heap->Prop}
variable {d:Nat} {t t1:TypeId} {p:String} {af:Array Edge} {x y:Operand} {lo hi:Nat} {L:List Res}
end
open Classical in
noncomputable def liftI (X:Ctx) (f:FuncId) (args:List PV):Option PV:=if h:∃ r,Fn X f args r then some h.choose else none
theorem liftI_fn {X:Ctx} {f:FuncId} {args:List PV} {r:PV} (h:liftI X f args=some r):Fn X f args r:=by
 unfold liftI at h
 split at h
 ·rename_i hx;cases h;exact hx.choose_spec
 ·cases h
end Go.Dn

namespace Go.Dn
open Go Go.Proofs
def cloneV (sz by_:Nat):List PV->Option PV
 | [.v (.sl xs)]=>if (xs.all λy=>y.length==sz)=true/\xs.length*by_<=room then some (.v (.sl xs)) else none
 | _=>none
noncomputable def CA:Ctx:={ P:=Try.prog,glob:=λ_=>none,intr:=λf args=>if f=78 then cloneV 1 24 args else none,opn:=λf=>false,keep:=λf=>false,lit:=true }
noncomputable def C0:Ctx:={ P:=Try.prog,glob:=λ_=>none,intr:=λ_ _=>none,opn:=λ_=>false,keep:=λ_=>false }
theorem Z3L:ProgOK Try.prog:=by
 refine ⟨λf fn h=>?_,by kernel_rfl⟩
 have hall : Try.prog.funcs.all (fun fn => !(fn.name == "runtime.NumGoroutine")) = true := by kernel_rfl
 have:=Array.all_eq_true_iff_forall_mem.1 hall fn (Array.mem_of_getElem? h)
 simpa using this
theorem c0_ok:CtxOK C0:=⟨Z3L,λf args r h=>by cases h⟩
theorem prog_call (f:FuncId) (fu:Func) (vs:Array Value) (w:World) (hf:Try.prog.funcs[f]? = some fu) (hb:fu.body.isSome=true):(callFunc f vs).run Try.prog w = .ok (.enter f vs) w:=by
 have hp:(program).run Try.prog w = .ok Try.prog w:=rfl
 simp only [callFunc,Sem.run_bind,hp,Result.andThen_ok,hf,Z3L.names f fu hf]
 cases hc:fu.body with
 | none=>rw [hc] at hb;cases hb
 | some c=>simp
set_option maxRecDepth 100000 in
theorem cloneT78:CloneT Try.prog 39 43 1 24 [.nils]:=⟨rfl,rfl,rfl,rfl,rfl⟩
theorem pvrs_one' {s:St} {x:PV} {vs:Array Value} (h:PVRs s [x] vs):∃ v,vs = #[v]/\PVR s x v:=by
 obtain ⟨hl,hx⟩:=h
 have:vs.size=1:=hl.symm
 refine ⟨vs.getD 0 Go.undef,?_,hx 0 x rfl⟩
 apply Array.ext
 ·simpa using this
 ·intro i h1 h2;have:i=0:=by simp at h2;omega
  subst this;simp [Array.getD,h1]
theorem ca_ok:CtxOK CA:=by
 refine ⟨Z3L,λf args r h s hi hG vs hv hp=>?_⟩
 simp only [CA] at h
 split at h
 ·rename_i hf;subst hf;refine ⟨prog_call 78 _ _ _ Try.func78 rfl,?_⟩;unfold cloneV at h
  split at h
  ·split at h
   ·rename_i xs hx;cases h;obtain ⟨v,rfl,hv1⟩:=pvrs_one' hv;exact clone_calls (X:=C0) (b:=4) c0_ok Try.func78 rfl rfl rfl (λ_=>rfl) cloneT78 hi hx.1 hx.2 hv1
   ·cases h
  ·cases h
 cases h
def closeV:List PV->Option PV
 | [.v (.sl [])]=>some (.tup [.v (.sl []),.v (.bool true),.v (.int .i64 0)])
 | _=>none
theorem close0 (G:Heap):ZY CA 60 (.fn 44) [.v (.sl [])] G=some (.tup [.v (.sl []),.v (.bool true),.v (.int .i64 0)],G):=by kernel_rfl
noncomputable def CX:Ctx:={ P:=Try.prog,glob:=λ_=>none,intr:=λf args=>if f=44 then closeV args else none,opn:=λf=>f==63||f==69||f==70||f==78||f==79,keep:=λf=>f==70,view:=λo=>match o with | .slice 43 (.tmp 39) (some (.tmp 40)) none none=>true | .slice 43 (.tmp 42) none (some (.tmp 43)) none=>true|_=>false }
theorem cx_ok:CtxOK CX:=by
 refine ⟨Z3L,λf args r h s hi hG vs hv hp=>?_⟩
 simp only [CX] at h
 split at h
 ·rename_i hf;subst hf;unfold closeV at h
  split at h
  ·cases h;exact Z3S ca_ok 60 (.fn 44) _ _ _ s (close0 s.G) hi hG vs hv
  ·cases h
 cases h
end Go.Dn

namespace Go.Dn
open Go
noncomputable section
structure Bound where
 Inf:Int
 N:Int
 deriving DecidableEq
def Bound.cs (x:Bound):List FV:=[(.int .i8 x.Inf),(.int .i64 x.N)]
def Bound.ok (x:Bound):Prop:=okI .i8 x.Inf/\okI .i64 x.N
structure epactlaw24_Set where
 I:Int
 J:Int
 Most:Bound
 deriving DecidableEq
def epactlaw24_Set.cs (x:epactlaw24_Set):List FV:=[(.int .i64 x.I),(.int .i64 x.J),(.int .i8 x.Most.Inf),(.int .i64 x.Most.N)]
def epactlaw24_Set.ok (x:epactlaw24_Set):Prop:=okI .i64 x.I/\okI .i64 x.J/\Bound.ok x.Most
def Z0U (x':Int) (y:Int):Int×Int :=
 ((IntKind.u64.wrap ((IntKind.u64.wrap ((IntKind.u64.wrap ((x'.fdiv (2 ^ 32))*(y.fdiv (2 ^ 32))))+((IntKind.u64.wrap ((IntKind.u64.wrap ((x'.fdiv (2 ^ 32))*(iAnd .u64 y 4294967295)))+((IntKind.u64.wrap ((iAnd .u64 x' 4294967295)*(iAnd .u64 y 4294967295))).fdiv (2 ^ 32)))).fdiv (2 ^ 32))))+((IntKind.u64.wrap ((iAnd .u64 (IntKind.u64.wrap ((IntKind.u64.wrap ((x'.fdiv (2 ^ 32))*(iAnd .u64 y 4294967295)))+((IntKind.u64.wrap ((iAnd .u64 x' 4294967295)*(iAnd .u64 y 4294967295))).fdiv (2 ^ 32)))) 4294967295)+(IntKind.u64.wrap ((iAnd .u64 x' 4294967295)*(y.fdiv (2 ^ 32)))))).fdiv (2 ^ 32)))),(IntKind.u64.wrap (x'*y)))
def Z2O (a:Int) (b:Int):Int×Int :=
 (bif (((decide ((w64 (a+b))>a)) != (decide (b>0)))&&(b != 0)) then
  (0,10)
 else
  ((w64 (a+b)),0))
def Z03 (a:Bound):Bool :=
 ((a.Inf==0)||(((a.Inf==1)||(a.Inf==(-1)))&&(a.N==0)))
def safe_Sub (a:Int) (b:Int):Int×Int :=
 (bif (((decide ((w64 (a-b))<a)) != (decide (b>0)))&&(b != 0)) then
  (0,10)
 else
  ((w64 (a-b)),0))
def Zu (a:Bound) (b:Bound):Bool :=
 (bif ((!(Z03 a))||(!(Z03 b))) then
  false
 else
  (bif (a.Inf != b.Inf) then
   (decide (a.Inf<b.Inf))
  else
   (decide (a.N<b.N))))
def Z0P (a:Bound) (b:Bound):Bound×Int :=
 (bif ((!(Z03 a))||(!(Z03 b))) then
  ((Bound.mk 0 0),2)
 else
  (bif (((a.Inf != 0)&&(b.Inf != 0))&&(a.Inf != b.Inf)) then
   ((Bound.mk 0 0),10)
  else
   (bif (a.Inf != 0) then
    (a,0)
   else
    (bif (b.Inf != 0) then
     (b,0)
    else
     ((Bound.mk 0 ((Z2O a.N b.N).1)),(Z2O a.N b.N).2)))))
def ZW (x':Int) (y:Int):Int×Int :=
 ((Z0U x' y).1,(Z0U x' y).2)
def ZA.s0 (x':(List Bound)) (count:Int) (s1:Int×(List Bound)):Option ((Int×(List Bound))⊕((List Bound))) :=
 (bif (decide (s1.1<(s1.2.length:Int))) then
  (winA s1.1 ((w64 ((ZW (IntKind.u64.wrap (x'.length:Int)) (IntKind.u64.wrap count)).2))).toNat).bind λu1=>
  (winB s1.1 ((w64 ((ZW (IntKind.u64.wrap (x'.length:Int)) (IntKind.u64.wrap count)).2))).toNat).bind λu2=>
  some (.inl ((w64 (s1.1+((min (s1.1).toNat (((w64 ((ZW (IntKind.u64.wrap (x'.length:Int)) (IntKind.u64.wrap count)).2))).toNat-(s1.1).toNat):Nat):Int))),(dbl s1.2 (s1.1).toNat)))
 else
  some (.inr s1.2))
def ZA (x':(List Bound)) (count:Int):Option ((List Bound)) :=
 (bif (decide (count<0)) then
  none
 else
  (bif ((decide (((ZW (IntKind.u64.wrap (x'.length:Int)) (IntKind.u64.wrap count)).1)>0))||(decide (((ZW (IntKind.u64.wrap (x'.length:Int)) (IntKind.u64.wrap count)).2)>9223372036854775807))) then
   none
  else
   (new? 16 (w64 ((ZW (IntKind.u64.wrap (x'.length:Int)) (IntKind.u64.wrap count)).2)) (Bound.mk 0 0)).bind λx1=>
   (ZQ (ZA.s0 x' count) (((min x'.length x1.length:Nat):Int),(cpy x1 x'))).bind λ(y1:(List Bound))=>
   some y1))
def Z2D.s0 (n:Int) (s1:Int×(List (List Bound))):Option ((Int×(List (List Bound)))⊕((List (List Bound)))) :=
 (bif (decide (s1.1<n)) then
  (ZA [(Bound.mk 1 0)] n).bind λx2=>
  (at? s1.2 s1.1).bind λx3=>
  (at? (s1.2.set (s1.1).toNat x2) s1.1).bind λx4=>
  (at? x4 s1.1).bind λx5=>
  some (.inl ((w64 (s1.1+1)),((s1.2.set (s1.1).toNat x2).set (s1.1).toNat (x4.set (s1.1).toNat (Bound.mk 0 0)))))
 else
  some (.inr s1.2))
def Z2D (n:Int):Option ((List (List Bound))×Int) :=
 (bif ((decide (n<0))||(decide (n>24))) then
  some ([],2)
 else
  (new? 24 n []).bind λx1=>
  (ZQ (Z2D.s0 n) (0,x1)).bind λ(y1:(List (List Bound)))=>
  some (y1,0))
def ZC.s0 (s:(List (List Bound))) (f:(List Bound)->Option Bool) (s1:Int):Option ((Int)⊕(Jx (Unit) (Int))) :=
 (bif (decide (s1<(s.length:Int))) then
  (at? s s1).bind λx1=>
  (f x1).bind λx2=>
  (bif x2 then
   some (.inr (.ret s1))
  else
   some (.inl (w64 (s1+1))))
 else
  some (.inr (.go ())))
def ZC (s:(List (List Bound))) (f:(List Bound)->Option Bool):Option (Int) :=
 (ZQ (ZC.s0 s f) 0).bind λ(y1:Jx (Unit) (Int))=>
 y1.elim (λr'=>
   some r') λa2=>
 some (-1)
def Za (s:(List (List Bound))) (f:(List Bound)->Option Bool):Option (Bool) :=
 (ZC s f).bind λx1=>
 some (decide (x1>=0))
def ZF.s0 (s:(List Bound)) (f:Bound->Option Bool) (s1:Int):Option ((Int)⊕(Jx (Unit) (Int))) :=
 (bif (decide (s1<(s.length:Int))) then
  (at? s s1).bind λx1=>
  (f x1).bind λx2=>
  (bif x2 then
   some (.inr (.ret s1))
  else
   some (.inl (w64 (s1+1))))
 else
  some (.inr (.go ())))
def ZF (s:(List Bound)) (f:Bound->Option Bool):Option (Int) :=
 (ZQ (ZF.s0 s f) 0).bind λ(y1:Jx (Unit) (Int))=>
 y1.elim (λr'=>
   some r') λa2=>
 some (-1)
def Zg (s:(List Bound)) (f:Bound->Option Bool):Option (Bool) :=
 (ZF s f).bind λx1=>
 some (decide (x1>=0))
def Z2A (b:Bound):Bool :=
 ((((Z03 b)&&(decide (b.Inf>=0)))&&(decide (b.N>=(-1125899906842624))))&&(decide (b.N<=1125899906842624)))
def Z2P (b:Bound):Bool :=
 (!(Z2A b))
def Z4G (row:(List Bound)) (p1':Int):Option (Bool) :=
 (
  (bif ((row.length:Int) != p1') then
   some true
  else
   (Zg row (λz0=>some (Z2P z0))).bind λx1=>
   some x1)).bind λ(y1:Bool)=>
 some y1
def Z0Z (d:(List (List Bound))):Option (Bool) :=
 (
  (bif (decide ((d.length:Int)<=24)) then
   (Za d (λz0=>Z4G z0 (d.length:Int))).bind λx1=>
   some (!x1)
  else
   some false)).bind λ(y1:Bool)=>
 some y1
def Z1R (d:(List (List Bound))):Option ((List (List Bound))) :=
 (bif (!d.isEmpty&&decide (d.length*24<=room)&&d.all λq=>!q.isEmpty&&decide (q.length*16<=room)) then
  some d
 else
  none)
def Z3Y (d:(List (List Bound))) (i:Int) (j:Int) (most:Bound):Option ((List (List Bound))×Int) :=
 (Z0Z d).bind λx1=>
 (bif ((((((!x1)||(decide (i<0)))||(decide (j<0)))||(decide (i>=(d.length:Int))))||(decide (j>=(d.length:Int))))||(!(Z2A most))) then
  some ([],2)
 else
  (Z1R d).bind λx2=>
  (
   (at? x2 i).bind λx3=>
   (at? x3 j).bind λx4=>
   (bif (Zu most x4) then
    (at? x2 i).bind λx5=>
    (at? x5 j).bind λx6=>
    some (x2.set (i).toNat (x5.set (j).toNat most))
   else
    some x2)).bind λ(y1:(List (List Bound)))=>
  some (y1,0))
def Zl.s0 (l:(List epactlaw24_Set)) (s1:(List (List Bound))×Int×Int):Option (((List (List Bound))×Int×Int)⊕((List (List Bound))×Int)) :=
 (bif (decide (s1.2.2<(l.length:Int))) then
  (
   (
    (at? l s1.2.2).bind λx2=>
    (bif (s1.2.1==0) then
     (Z3Y s1.1 x2.I x2.J x2.Most).bind λx3=>
     some (x3.1,x3.2)
    else
     some (s1.1,s1.2.1))).bind λ(y3:(List (List Bound))×Int)=>
   some (y3.1,y3.2)).bind λ(y2:(List (List Bound))×Int)=>
  some (.inl (y2.1,y2.2,(w64 (s1.2.2+1))))
 else
  some (.inr (s1.1,s1.2.1)))
def Zl (n:Int) (l:(List epactlaw24_Set)):Option ((List (List Bound))×Bool) :=
 (Z2D n).bind λx1=>
 (ZQ (Zl.s0 l) (x1.1,x1.2,0)).bind λ(y1:(List (List Bound))×Int)=>
 some (y1.1,(y1.2==0))
def ZU.s0 (x1:(List epactlaw24_Set)) (s2:Int×Int×(List epactlaw24_Set)):Option ((Int×Int×(List epactlaw24_Set))⊕(Int×(List epactlaw24_Set))) :=
 (bif (decide (s2.2.1<(x1.length:Int))) then
  (
   (
    (at? x1 s2.2.1).bind λx2=>
    (nz? s2.1).bind λu1=>
    (nz? s2.1).bind λu2=>
    (
     (bif (x2.Most.Inf==0) then
      some (0,(x2.Most.N.tmod 1001))
     else
      some (1,0))).bind λ(y4:Int×Int)=>
    (bif (((iAnd .i64 x2.I 255).tmod s2.1) != ((iAnd .i64 x2.J 255).tmod s2.1)) then
     (app? 32 s2.2.2 [(epactlaw24_Set.mk ((iAnd .i64 x2.I 255).tmod s2.1) ((iAnd .i64 x2.J 255).tmod s2.1) (Bound.mk y4.1 y4.2))]).bind λx3=>
     some x3
    else
     some s2.2.2)).bind λ(y3:(List epactlaw24_Set))=>
   some y3).bind λ(y2:(List epactlaw24_Set))=>
  some (.inl (s2.1,(w64 (s2.2.1+1)),y2))
 else
  some (.inr (s2.1,s2.2.2)))
def ZU (n:Int) (l:(List epactlaw24_Set)):Option ((List (List Bound))) :=
 (cut? l 0 (iMin (l.length:Int) 60)).bind λx1=>
 (ZQ (ZU.s0 x1) ((w64 (1+(w64 (n.tmod 24)))),0,[])).bind λ(y1:Int×(List epactlaw24_Set))=>
 (Zl y1.1 y1.2).bind λx4=>
 some x4.1
def ZB.s0 (d:(List (List Bound))) (s1:Int×(List (List Bound))):Option ((Int×(List (List Bound)))⊕(Jx ((List (List Bound))) ((List (List Bound))×Bool×Int))) :=
 (bif (decide (s1.1<((d.length:Nat):Int))) then
  (at? s1.2 s1.1).bind λx3=>
  (at? x3 s1.1).bind λx4=>
  (bif (Zu x4 (Bound.mk 0 0)) then
   some (.inr (.ret ([],false,0)))
  else
   (at? s1.2 s1.1).bind λx5=>
   (at? x5 s1.1).bind λx6=>
   some (.inl ((w64 (s1.1+1)),(s1.2.set (s1.1).toNat (x5.set (s1.1).toNat (Bound.mk 0 0))))))
 else
  some (.inr (.go s1.2)))
def ZB.s3 (d:(List (List Bound))) (s2:Int×(List (List Bound))) (s3:Int×(List (List Bound))) (s4:Int×(List (List Bound))):Option ((Int×(List (List Bound)))⊕((List (List Bound)))) :=
 (bif (decide (s4.1<((d.length:Nat):Int))) then
  (
   (
    (at? s4.2 s3.1).bind λx7=>
    (at? x7 s2.1).bind λx8=>
    (at? s4.2 s2.1).bind λx9=>
    (at? x9 s4.1).bind λx10=>
    (
     (bif (((Z0P x8 x10).2)==0) then
      (at? s4.2 s3.1).bind λx11=>
      (at? x11 s4.1).bind λx12=>
      some (Zu ((Z0P x8 x10).1) x12)
     else
      some false)).bind λ(y8:Bool)=>
    (bif y8 then
     (at? s4.2 s3.1).bind λx13=>
     (at? x13 s4.1).bind λx14=>
     some (s4.2.set (s3.1).toNat (x13.set (s4.1).toNat ((Z0P x8 x10).1)))
    else
     some s4.2)).bind λ(y7:(List (List Bound)))=>
   some y7).bind λ(y6:(List (List Bound)))=>
  some (.inl ((w64 (s4.1+1)),y6))
 else
  some (.inr s4.2))
def ZB.s2 (d:(List (List Bound))) (s2:Int×(List (List Bound))) (s3:Int×(List (List Bound))):Option ((Int×(List (List Bound)))⊕((List (List Bound)))) :=
 (bif (decide (s3.1<((d.length:Nat):Int))) then
  (ZQ (ZB.s3 d s2 s3) (0,s3.2)).bind λ(y5:(List (List Bound)))=>
  some (.inl ((w64 (s3.1+1)),y5))
 else
  some (.inr s3.2))
def ZB.s4 (d:(List (List Bound))) (y4:(List (List Bound))) (s5:Int):Option ((Int)⊕(Jx (Unit) (Unit))) :=
 (bif (decide (s5<((d.length:Nat):Int))) then
  (at? y4 s5).bind λx15=>
  (at? x15 s5).bind λx16=>
  (bif (Zu x16 (Bound.mk 0 0)) then
   some (.inr (.ret ()))
  else
   some (.inl (w64 (s5+1))))
 else
  some (.inr (.go ())))
def ZB.s1 (d:(List (List Bound))) (s2:Int×(List (List Bound))):Option ((Int×(List (List Bound)))⊕(Jx ((List (List Bound))) ((List (List Bound))×Bool×Int))) :=
 (bif (decide (s2.1<((d.length:Nat):Int))) then
  (
   (ZQ (ZB.s2 d s2) (0,s2.2)).bind λ(y4:(List (List Bound)))=>
   (ZQ (ZB.s4 d y4) 0).bind λ(y9:Jx (Unit) (Unit))=>
   y9.elim (λa7=>
     some (false,y4)) λa6=>
   some (true,y4)).bind λ(y3:Bool×(List (List Bound)))=>
  (bif (!y3.1) then
   some (.inr (.ret ([],false,0)))
  else
   some (.inl ((w64 (s2.1+1)),y3.2)))
 else
  some (.inr (.go s2.2)))
def ZB (d:(List (List Bound))):Option ((List (List Bound))×Bool×Int) :=
 (Z0Z d).bind λx1=>
 (bif (!x1) then
  some ([],false,2)
 else
  (Z1R d).bind λx2=>
  (ZQ (ZB.s0 d) (0,x2)).bind λ(y1:Jx ((List (List Bound))) ((List (List Bound))×Bool×Int))=>
  y1.elim (λr'=>
    some r') λa2=>
  (ZQ (ZB.s1 d) (0,a2)).bind λ(y2:Jx ((List (List Bound))) ((List (List Bound))×Bool×Int))=>
  y2.elim (λr'=>
    some r') λa8=>
  some (a8,true,0))
def Ze.s1 (ticks:(List Int)) (s1:Int) (x2:(List Bound)) (s2:Int):Option ((Int)⊕(Jx (Unit) (Bool))) :=
 (bif (decide (s2<(x2.length:Int))) then
  (
   (
    (at? x2 s2).bind λx3=>
    (at? ticks s2).bind λx4=>
    (at? ticks s1).bind λx5=>
    (
     (bif (x3.Inf==1) then
      some (.go ())
     else
      (
       (
        (bif (((safe_Sub x4 x5).2) != 0) then
         (at? ticks s2).bind λx6=>
         (at? ticks s1).bind λx7=>
         some (decide (x6>x7))
        else
         some false)).bind λ(y7:Bool)=>
       (bif y7 then
        some y7
       else
        some ((((safe_Sub x4 x5).2)==0)&&(decide (((safe_Sub x4 x5).1)>x3.N))))).bind λ(y6:Bool)=>
      (bif y6 then
       some (.ret false)
      else
       some (.go ())))).bind λ(y5:Jx (Unit) (Bool))=>
    y5.elim (λr'=>
      some (.ret r')) λa6=>
    some (.go ())).bind λ(y4:Jx (Unit) (Bool))=>
   y4.elim (λr'=>
     some (.ret r')) λa7=>
   some (.go ())).bind λ(y3:Jx (Unit) (Bool))=>
  y3.elim (λr'=>
    some (.inr (.ret r'))) λa8=>
  some (.inl (w64 (s2+1)))
 else
  some (.inr (.go ())))
def Ze.s0 (d:(List (List Bound))) (ticks:(List Int)) (s1:Int):Option ((Int)⊕(Jx (Unit) (Bool))) :=
 (bif (decide (s1<(d.length:Int))) then
  (at? d s1).bind λx2=>
  (ZQ (Ze.s1 ticks s1 x2) 0).bind λ(y2:Jx (Unit) (Bool))=>
  y2.elim (λr'=>
    some (.inr (.ret r'))) λa9=>
  some (.inl (w64 (s1+1)))
 else
  some (.inr (.go ())))
def Ze (d:(List (List Bound))) (ticks:(List Int)):Option (Bool) :=
 (Z0Z d).bind λx1=>
 (bif ((!x1)||((ticks.length:Int) != (d.length:Int))) then
  some false
 else
  (ZQ (Ze.s0 d ticks) 0).bind λ(y1:Jx (Unit) (Bool))=>
  y1.elim (λr'=>
    some r') λa10=>
  some true)
def ZI (n:Int):Bound :=
 (Bound.mk 0 n)
def Z5.s0 (m:(List (List Bound))) (n:Int) (s1:Int):Option ((Int)⊕(Jx (Unit) (Bool))) :=
 (bif (decide (s1<(m.length:Int))) then
  (at? m s1).bind λx1=>
  (bif ((x1.length:Int) != n) then
   some (.inr (.ret false))
  else
   some (.inl (w64 (s1+1))))
 else
  some (.inr (.go ())))
def Z5 (m:(List (List Bound))) (n:Int):Option (Bool) :=
 (ZQ (Z5.s0 m n) 0).bind λ(y1:Jx (Unit) (Bool))=>
 y1.elim (λr'=>
   some r') λa2=>
 some ((m.length:Int)==n)
def Z0D.s1 (a:(List (List Bound))) (b:(List (List Bound))) (s1:Int) (s2:Int):Option ((Int)⊕(Jx (Unit) (Bool))) :=
 (at? a s1).bind λx3=>
 (bif (decide (s2<(x3.length:Int))) then
  (at? a s1).bind λx4=>
  (at? x4 s2).bind λx5=>
  (at? b s1).bind λx6=>
  (at? x6 s2).bind λx7=>
  (bif (!((x5.Inf==x7.Inf)&&((x5.N==x7.N)&&true))) then
   some (.inr (.ret false))
  else
   some (.inl (w64 (s2+1))))
 else
  some (.inr (.go ())))
def Z0D.s0 (a:(List (List Bound))) (b:(List (List Bound))) (s1:Int):Option ((Int)⊕(Jx (Unit) (Bool))) :=
 (bif (decide (s1<(a.length:Int))) then
  (at? a s1).bind λx1=>
  (at? b s1).bind λx2=>
  (bif ((x1.length:Int) != (x2.length:Int)) then
   some (.inr (.ret false))
  else
   (ZQ (Z0D.s1 a b s1) 0).bind λ(y2:Jx (Unit) (Bool))=>
   y2.elim (λr'=>
     some (.inr (.ret r'))) λa3=>
   some (.inl (w64 (s1+1))))
 else
  some (.inr (.go ())))
def Z0D (a:(List (List Bound))) (b:(List (List Bound))):Option (Bool) :=
 (bif ((a.length:Int) != (b.length:Int)) then
  some false
 else
  (ZQ (Z0D.s0 a b) 0).bind λ(y1:Jx (Unit) (Bool))=>
  y1.elim (λr'=>
    some r') λa4=>
  some true)
def ZN:Bool:=true
def ZE.s0 (x1:(List (List Bound))) (s1:(List Int)):Option (((List Int))⊕((List Int))) :=
 (bif (decide ((s1.length:Int)<(x1.length:Int))) then
  (cut? s1 0 (s1.length:Int)).bind λx5=>
  (app? 8 x5 [0]).bind λx6=>
  some (.inl x6)
 else
  some (.inr s1))
def ZE.s2 (x1:(List (List Bound))) (x2:(List (List Bound))×Bool×Int) (s2:Int×(List Int)) (s3:Int×(List Int)):Option ((Int×(List Int))⊕((List Int))) :=
 (bif (decide (s3.1<(x1.length:Int))) then
  (
   (
    (at? x2.1 s3.1).bind λx13=>
    (at? x13 s2.1).bind λx14=>
    (bif (x14.Inf==0) then
     (at? s3.2 s2.1).bind λx15=>
     (at? x2.1 s3.1).bind λx16=>
     (at? x16 s2.1).bind λx17=>
     (at? s3.2 s2.1).bind λx18=>
     some (s3.2.set (s2.1).toNat (iMin x15 x17.N))
    else
     some s3.2)).bind λ(y5:(List Int))=>
   some y5).bind λ(y4:(List Int))=>
  some (.inl ((w64 (s3.1+1)),y4))
 else
  some (.inr s3.2))
def ZE.s1 (x1:(List (List Bound))) (x2:(List (List Bound))×Bool×Int) (s2:Int×(List Int)):Option ((Int×(List Int))⊕((List Int))) :=
 (bif (decide (s2.1<(x1.length:Int))) then
  (ZQ (ZE.s2 x1 x2 s2) (0,s2.2)).bind λ(y3:(List Int))=>
  some (.inl ((w64 (s2.1+1)),y3))
 else
  some (.inr s2.2))
def ZE.s4 (x1:(List (List Bound))) (x2:(List (List Bound))×Bool×Int) (s4:Int×(List Int)) (s5:Int×(List Int)):Option ((Int×(List Int))⊕((List Int))) :=
 (bif (decide (s5.1<(x1.length:Int))) then
  (
   (
    (at? x2.1 s5.1).bind λx27=>
    (at? x27 s4.1).bind λx28=>
    (bif (x28.Inf==0) then
     (at? s5.2 s4.1).bind λx29=>
     (at? x2.1 s5.1).bind λx30=>
     (at? x30 s4.1).bind λx31=>
     (at? s5.2 s4.1).bind λx32=>
     some (s5.2.set (s4.1).toNat (iMin x29 x31.N))
    else
     some s5.2)).bind λ(y10:(List Int))=>
   some y10).bind λ(y9:(List Int))=>
  some (.inl ((w64 (s5.1+1)),y9))
 else
  some (.inr s5.2))
def ZE.s3 (x1:(List (List Bound))) (x2:(List (List Bound))×Bool×Int) (s4:Int×(List Int)):Option ((Int×(List Int))⊕((List Int))) :=
 (bif (decide (s4.1<(x1.length:Int))) then
  (ZQ (ZE.s4 x1 x2 s4) (0,s4.2)).bind λ(y8:(List Int))=>
  some (.inl ((w64 (s4.1+1)),y8))
 else
  some (.inr s4.2))
def ZE (n:Int) (l:(List epactlaw24_Set)) (ticks:(List Int)):Option (Bool) :=
 (ZU n l).bind λx1=>
 (bif ((x1.length:Int)==0) then
  some false
 else
  (ZB x1).bind λx2=>
  (bif (decide ((ticks.length:Int)<(x1.length:Int))) then
   (cut? ticks 0 (ticks.length:Int)).bind λx3=>
   (app? 8 x3 [0]).bind λx4=>
   (ZQ (ZE.s0 x1) x4).bind λ(y1:(List Int))=>
   (cut? y1 0 (x1.length:Int)).bind λx7=>
   (Ze x1 x7).bind λx8=>
   (bif ((x2.2.2 != 0)||(!x2.2.1)) then
    some ((((x2.2.2==0)&&(!x8))&&((x2.1.length:Int)==0))&&ZN)
   else
    (cut? y1 0 (x1.length:Int)).bind λx9=>
    (Ze x2.1 x9).bind λx10=>
    (bif (x10 != x8) then
     some false
    else
     (Z5 x2.1 (x1.length:Int)).bind λx11=>
     (bif (!x11) then
      some false
     else
      (new? 8 (x1.length:Int) 0).bind λx12=>
      (ZQ (ZE.s1 x1 x2) (0,x12)).bind λ(y2:(List Int))=>
      (Ze x1 y2).bind λx19=>
      (
       (bif x19 then
        (Ze x2.1 y2).bind λx20=>
        some x20
       else
        some false)).bind λ(y6:Bool)=>
      some (y6&&ZN))))
  else
   (cut? ticks 0 (x1.length:Int)).bind λx21=>
   (Ze x1 x21).bind λx22=>
   (bif ((x2.2.2 != 0)||(!x2.2.1)) then
    some ((((x2.2.2==0)&&(!x22))&&((x2.1.length:Int)==0))&&ZN)
   else
    (cut? ticks 0 (x1.length:Int)).bind λx23=>
    (Ze x2.1 x23).bind λx24=>
    (bif (x24 != x22) then
     some false
    else
     (Z5 x2.1 (x1.length:Int)).bind λx25=>
     (bif (!x25) then
      some false
     else
      (new? 8 (x1.length:Int) 0).bind λx26=>
      (ZQ (ZE.s3 x1 x2) (0,x26)).bind λ(y7:(List Int))=>
      (Ze x1 y7).bind λx33=>
      (
       (bif x33 then
        (Ze x2.1 y7).bind λx34=>
        some x34
       else
        some false)).bind λ(y11:Bool)=>
      some (y11&&ZN))))))
def Z3Z (d:(List (List Bound))) (i:Int) (j:Int) (most:Bound):Option ((List (List Bound))×Int) :=
 (Z0Z d).bind λx1=>
 (bif ((((((!x1)||(decide (i<0)))||(decide (j<0)))||(decide (i>=(d.length:Int))))||(decide (j>=(d.length:Int))))||(!(Z2A most))) then
  none
 else
  (Z1R d).bind λx2=>
  (
   (at? x2 i).bind λx3=>
   (at? x3 j).bind λx4=>
   (bif (Zu most x4) then
    (at? x2 i).bind λx5=>
    (at? x5 j).bind λx6=>
    some (x2.set (i).toNat (x5.set (j).toNat most))
   else
    some x2)).bind λ(y1:(List (List Bound)))=>
  some (y1,0))
def Z7.s0 (d:(List (List Bound))) (s1:Int×(List (List Bound))):Option ((Int×(List (List Bound)))⊕(Jx ((List (List Bound))) ((List (List Bound))))) :=
 (bif (decide (s1.1<((d.length:Nat):Int))) then
  (at? s1.2 s1.1).bind λx3=>
  (at? x3 s1.1).bind λx4=>
  (bif (Zu x4 (Bound.mk 0 0)) then
   some (.inr (.ret s1.2))
  else
   (at? s1.2 s1.1).bind λx5=>
   (at? x5 s1.1).bind λx6=>
   some (.inl ((w64 (s1.1+1)),(s1.2.set (s1.1).toNat (x5.set (s1.1).toNat (Bound.mk 0 0))))))
 else
  some (.inr (.go s1.2)))
def Z7.s3 (d:(List (List Bound))) (s2:Int×(List (List Bound))) (s3:Int×(List (List Bound))) (s4:Int×(List (List Bound))):Option ((Int×(List (List Bound)))⊕((List (List Bound)))) :=
 (bif (decide (s4.1<((d.length:Nat):Int))) then
  (
   (
    (at? s4.2 s3.1).bind λx7=>
    (at? x7 s2.1).bind λx8=>
    (at? s4.2 s2.1).bind λx9=>
    (at? x9 s4.1).bind λx10=>
    (
     (bif (((Z0P x8 x10).2)==0) then
      (at? s4.2 s3.1).bind λx11=>
      (at? x11 s4.1).bind λx12=>
      some (Zu ((Z0P x8 x10).1) x12)
     else
      some false)).bind λ(y8:Bool)=>
    (bif y8 then
     (at? s4.2 s3.1).bind λx13=>
     (at? x13 s4.1).bind λx14=>
     some (s4.2.set (s3.1).toNat (x13.set (s4.1).toNat ((Z0P x8 x10).1)))
    else
     some s4.2)).bind λ(y7:(List (List Bound)))=>
   some y7).bind λ(y6:(List (List Bound)))=>
  some (.inl ((w64 (s4.1+1)),y6))
 else
  some (.inr s4.2))
def Z7.s2 (d:(List (List Bound))) (s2:Int×(List (List Bound))) (s3:Int×(List (List Bound))):Option ((Int×(List (List Bound)))⊕((List (List Bound)))) :=
 (bif (decide (s3.1<((d.length:Nat):Int))) then
  (ZQ (Z7.s3 d s2 s3) (0,s3.2)).bind λ(y5:(List (List Bound)))=>
  some (.inl ((w64 (s3.1+1)),y5))
 else
  some (.inr s3.2))
def Z7.s4 (d:(List (List Bound))) (y4:(List (List Bound))) (s5:Int):Option ((Int)⊕(Jx (Unit) (Unit))) :=
 (bif (decide (s5<((d.length:Nat):Int))) then
  (at? y4 s5).bind λx15=>
  (at? x15 s5).bind λx16=>
  (bif (Zu x16 (Bound.mk 0 0)) then
   some (.inr (.ret ()))
  else
   some (.inl (w64 (s5+1))))
 else
  some (.inr (.go ())))
def Z7.s1 (d:(List (List Bound))) (s2:Int×(List (List Bound))):Option ((Int×(List (List Bound)))⊕(Jx ((List (List Bound))) ((List (List Bound))))) :=
 (bif (decide (s2.1<((d.length:Nat):Int))) then
  (
   (ZQ (Z7.s2 d s2) (0,s2.2)).bind λ(y4:(List (List Bound)))=>
   (ZQ (Z7.s4 d y4) 0).bind λ(y9:Jx (Unit) (Unit))=>
   y9.elim (λa10=>
     some (false,y4)) λa9=>
   some (true,y4)).bind λ(y3:Bool×(List (List Bound)))=>
  (bif (!y3.1) then
   some (.inr (.ret y3.2))
  else
   some (.inl ((w64 (s2.1+1)),y3.2)))
 else
  some (.inr (.go s2.2)))
def Z7 (d:(List (List Bound))):Option ((List (List Bound))×Bool×Int) :=
 (Z0Z d).bind λx1=>
 (bif (!x1) then
  some ([],false,2)
 else
  (Z1R d).bind λx2=>
  (ZQ (Z7.s0 d) (0,x2)).bind λ(y1:Jx ((List (List Bound))) ((List (List Bound))))=>
  y1.elim (λa4=>
    some ([],false,0)) λa3=>
  (ZQ (Z7.s1 d) (0,a3)).bind λ(y2:Jx ((List (List Bound))) ((List (List Bound))))=>
  y2.elim (λa12=>
    some ([],false,0)) λa11=>
  some (a11,true,0))
def Z1X (n:Int) (l:(List epactlaw24_Set)):Option (Bool) :=
 (ZU (IntKind.u8.wrap (1+(n.tmod 23))) l).bind λx1=>
 (bif (decide ((x1.length:Int)<2)) then
  some false
 else
  (at? x1 0).bind λx2=>
  (at? x2 1).bind λx3=>
  (Z3Z x1 0 1 (Bound.mk 0 (-500))).bind λx4=>
  (Z7 x1).bind λx5=>
  (bif x5.2.1 then
   (
    (
     (Z5 x4.1 (x1.length:Int)).bind λx6=>
     (bif x6 then
      (at? x4.1 (0:Int)).bind λx7=>
      (at? x7 (1:Int)).bind λx8=>
      some (x4.1.set ((0:Int)).toNat (x7.set ((1:Int)).toNat (Bound.mk 0 77777)))
     else
      some x4.1)).bind λ(y2:(List (List Bound)))=>
    some y2).bind λ(y1:(List (List Bound)))=>
   (
    (
     (Z5 x5.1 (x1.length:Int)).bind λx9=>
     (bif x9 then
      (at? x5.1 (0:Int)).bind λx10=>
      (at? x10 (1:Int)).bind λx11=>
      some (x5.1.set ((0:Int)).toNat (x10.set ((1:Int)).toNat (Bound.mk 0 77777)))
     else
      some x5.1)).bind λ(y4:(List (List Bound)))=>
    some y4).bind λ(y3:(List (List Bound)))=>
   (Z7 x1).bind λx12=>
   (bif x12.2.1 then
    (Z5 x12.1 (x1.length:Int)).bind λx13=>
    (bif (!x13) then
     some false
    else
     (
      (bif ((((x4.2==0)&&(x5.2.2==0))&&(x12.2.2==0))&&(true==true)) then
       (at? x1 0).bind λx14=>
       (at? x14 1).bind λx15=>
       some ((x15.Inf==x3.Inf)&&((x15.N==x3.N)&&true))
      else
       some false)).bind λ(y5:Bool)=>
     (
      (bif y5 then
       (at? x12.1 (0:Int)).bind λx16=>
       (at? x16 (1:Int)).bind λx17=>
       some (!((x17.Inf==0)&&((x17.N==77777)&&true)))
      else
       some false)).bind λ(y6:Bool)=>
     some (y6&&ZN))
   else
    (
     (bif ((((x4.2==0)&&(x5.2.2==0))&&(x12.2.2==0))&&(true==false)) then
      (at? x1 0).bind λx18=>
      (at? x18 1).bind λx19=>
      some ((x19.Inf==x3.Inf)&&((x19.N==x3.N)&&true))
     else
      some false)).bind λ(y7:Bool)=>
    some ((y7&&true)&&ZN))
  else
   (
    (
     (Z5 x4.1 (x1.length:Int)).bind λx20=>
     (bif x20 then
      (at? x4.1 (0:Int)).bind λx21=>
      (at? x21 (1:Int)).bind λx22=>
      some (x4.1.set ((0:Int)).toNat (x21.set ((1:Int)).toNat (Bound.mk 0 77777)))
     else
      some x4.1)).bind λ(y9:(List (List Bound)))=>
    some y9).bind λ(y8:(List (List Bound)))=>
   (
    (
     (Z5 [] (x1.length:Int)).bind λx23=>
     (bif x23 then
      (at? ([] : List ((List Bound))) 0).bind λx24=>
      none
     else
      some ())).bind λ(y11:Unit)=>
    some ()).bind λ(y10:Unit)=>
   (Z7 x1).bind λx25=>
   (bif x25.2.1 then
    (Z5 x25.1 (x1.length:Int)).bind λx26=>
    (bif (!x26) then
     some false
    else
     (
      (bif ((((x4.2==0)&&(x5.2.2==0))&&(x25.2.2==0))&&(false==true)) then
       (at? x1 0).bind λx27=>
       (at? x27 1).bind λx28=>
       some ((x28.Inf==x3.Inf)&&((x28.N==x3.N)&&true))
      else
       some false)).bind λ(y12:Bool)=>
     (
      (bif y12 then
       (at? x25.1 (0:Int)).bind λx29=>
       (at? x29 (1:Int)).bind λx30=>
       some (!((x30.Inf==0)&&((x30.N==77777)&&true)))
      else
       some false)).bind λ(y13:Bool)=>
     some (y13&&ZN))
   else
    (
     (bif ((((x4.2==0)&&(x5.2.2==0))&&(x25.2.2==0))&&(false==false)) then
      (at? x1 0).bind λx31=>
      (at? x31 1).bind λx32=>
      some ((x32.Inf==x3.Inf)&&((x32.N==x3.N)&&true))
     else
      some false)).bind λ(y14:Bool)=>
    some ((y14&&true)&&ZN))))
end
end Go.Dn

namespace Go.Dn
open Go
noncomputable section
def Le {α:Type} (a b:Option α):Prop:=∀ r,a=some r->b=some r
theorem Le.refl {α:Type} (a:Option α):Le a a:=λ_ h=>h
theorem Le.bind {α β:Type} {a b:Option α} {f g:α->Option β} (h:Le a b) (hf:∀ x,Le (f x) (g x)):Le (a.bind f) (b.bind g):=λr hr=>by
 cases ha:a with
 | none=>rw [ha] at hr;cases hr
 | some x=>rw [ha] at hr;rw [h x ha];exact hf x r hr
theorem Le.cond {α:Type} {c:Bool} {a b a' b':Option α} (h:Le a a') (h':Le b b'):Le (bif c then a else b) (bif c then a' else b'):=by
 cases c
 ·exact h'
 ·exact h
theorem Le.elim {A B C:Type} {y:Jx A B} {f f':B->Option C} {g g':A->Option C} (h:∀ r,Le (f r) (f' r)) (h':∀ a,Le (g a) (g' a)):Le (y.elim f g) (y.elim f' g'):=by
 cases y
 ·exact h' _
 ·exact h _
theorem Le.rangeY {S T:Type} {f g:S->T->Option (S×Nat)} (h:∀ s t,Le (f s t) (g s t)) (s:S×Nat) (t:T):Le (rangeY f s t) (rangeY g s t):=λr hr=>by
 unfold Go.Dn.rangeY at hr ⊢
 split at hr
 ·rename_i h0;rw [if_pos h0];cases ha:f s.1 t with
  | none=>rw [ha] at hr;cases hr
  | some x=>rw [ha] at hr;rw [h _ _ x ha];exact hr
 ·cases hr
def Z18 {S R:Type} (step:S->Option (S⊕R)) (s:S):Option R:=Z0k step 1000000 s
theorem iterO_le {S R:Type} {step step':S->Option (S⊕R)} (h:∀ s,Le (step s) (step' s)):∀ (n:Nat) (s:S),Le (Z0k step n s) (Z0k step' n s)
 | 0,s=>λr hr=>by cases hr
 | n+1,s=>λr hr=>by
  simp only [Z0k] at hr ⊢;cases hs:step s with
  | none=>rw [hs] at hr;cases hr
  | some x=>
   rw [hs] at hr;rw [h s x hs];cases x with
   | inl s'=>exact iterO_le h n s' r hr
   | inr r'=>exact hr
theorem Le.loop {S R:Type} {step step':S->Option (S⊕R)} {s:S} (h:∀ s,Le (step s) (step' s)):Le (Z18 step s) (ZQ step' s):=λr hr=>Z0p.2 ⟨1000000,iterO_le h _ s r hr⟩
def Z13 (x':(List Bound)) (count:Int):Option ((List Bound)) :=
 (bif (decide (count<0)) then
  none
 else
  (bif ((decide (((ZW (IntKind.u64.wrap (x'.length:Int)) (IntKind.u64.wrap count)).1)>0))||(decide (((ZW (IntKind.u64.wrap (x'.length:Int)) (IntKind.u64.wrap count)).2)>9223372036854775807))) then
   none
  else
   (new? 16 (w64 ((ZW (IntKind.u64.wrap (x'.length:Int)) (IntKind.u64.wrap count)).2)) (Bound.mk 0 0)).bind λx1=>
   (Z18 (ZA.s0 x' count) (((min x'.length x1.length:Nat):Int),(cpy x1 x'))).bind λ(y1:(List Bound))=>
   some y1))
def Z25.s0 (n:Int) (s1:Int×(List (List Bound))):Option ((Int×(List (List Bound)))⊕((List (List Bound)))) :=
 (bif (decide (s1.1<n)) then
  (Z13 [(Bound.mk 1 0)] n).bind λx2=>
  (at? s1.2 s1.1).bind λx3=>
  (at? (s1.2.set (s1.1).toNat x2) s1.1).bind λx4=>
  (at? x4 s1.1).bind λx5=>
  some (.inl ((w64 (s1.1+1)),((s1.2.set (s1.1).toNat x2).set (s1.1).toNat (x4.set (s1.1).toNat (Bound.mk 0 0)))))
 else
  some (.inr s1.2))
def Z25 (n:Int):Option ((List (List Bound))×Int) :=
 (bif ((decide (n<0))||(decide (n>24))) then
  some ([],2)
 else
  (new? 24 n []).bind λx1=>
  (Z18 (Z25.s0 n) (0,x1)).bind λ(y1:(List (List Bound)))=>
  some (y1,0))
def Zb.s0 (s:(List (List Bound))) (f:(List Bound)->Option Bool) (s1:Int):Option ((Int)⊕(Jx (Unit) (Int))) :=
 (bif (decide (s1<(s.length:Int))) then
  (at? s s1).bind λx1=>
  (f x1).bind λx2=>
  (bif x2 then
   some (.inr (.ret s1))
  else
   some (.inl (w64 (s1+1))))
 else
  some (.inr (.go ())))
def Zb (s:(List (List Bound))) (f:(List Bound)->Option Bool):Option (Int) :=
 (Z18 (Zb.s0 s f) 0).bind λ(y1:Jx (Unit) (Int))=>
 y1.elim (λr'=>
   some r') λa2=>
 some (-1)
def Z0M (s:(List (List Bound))) (f:(List Bound)->Option Bool):Option (Bool) :=
 (Zb s f).bind λx1=>
 some (decide (x1>=0))
def Zh.s0 (s:(List Bound)) (f:Bound->Option Bool) (s1:Int):Option ((Int)⊕(Jx (Unit) (Int))) :=
 (bif (decide (s1<(s.length:Int))) then
  (at? s s1).bind λx1=>
  (f x1).bind λx2=>
  (bif x2 then
   some (.inr (.ret s1))
  else
   some (.inl (w64 (s1+1))))
 else
  some (.inr (.go ())))
def Zh (s:(List Bound)) (f:Bound->Option Bool):Option (Int) :=
 (Z18 (Zh.s0 s f) 0).bind λ(y1:Jx (Unit) (Int))=>
 y1.elim (λr'=>
   some r') λa2=>
 some (-1)
def Z0R (s:(List Bound)) (f:Bound->Option Bool):Option (Bool) :=
 (Zh s f).bind λx1=>
 some (decide (x1>=0))
def Z4f (row:(List Bound)) (p1':Int):Option (Bool) :=
 (
  (bif ((row.length:Int) != p1') then
   some true
  else
   (Z0R row (λz0=>some (Z2P z0))).bind λx1=>
   some x1)).bind λ(y1:Bool)=>
 some y1
def Z1y (d:(List (List Bound))):Option (Bool) :=
 (
  (bif (decide ((d.length:Int)<=24)) then
   (Z0M d (λz0=>Z4f z0 (d.length:Int))).bind λx1=>
   some (!x1)
  else
   some false)).bind λ(y1:Bool)=>
 some y1
def ev_stp_Set (d:(List (List Bound))) (i:Int) (j:Int) (most:Bound):Option ((List (List Bound))×Int) :=
 (Z1y d).bind λx1=>
 (bif ((((((!x1)||(decide (i<0)))||(decide (j<0)))||(decide (i>=(d.length:Int))))||(decide (j>=(d.length:Int))))||(!(Z2A most))) then
  some ([],2)
 else
  (Z1R d).bind λx2=>
  (
   (at? x2 i).bind λx3=>
   (at? x3 j).bind λx4=>
   (bif (Zu most x4) then
    (at? x2 i).bind λx5=>
    (at? x5 j).bind λx6=>
    some (x2.set (i).toNat (x5.set (j).toNat most))
   else
    some x2)).bind λ(y1:(List (List Bound)))=>
  some (y1,0))
def Zs.s0 (l:(List epactlaw24_Set)) (s1:(List (List Bound))×Int×Int):Option (((List (List Bound))×Int×Int)⊕((List (List Bound))×Int)) :=
 (bif (decide (s1.2.2<(l.length:Int))) then
  (
   (
    (at? l s1.2.2).bind λx2=>
    (bif (s1.2.1==0) then
     (ev_stp_Set s1.1 x2.I x2.J x2.Most).bind λx3=>
     some (x3.1,x3.2)
    else
     some (s1.1,s1.2.1))).bind λ(y3:(List (List Bound))×Int)=>
   some (y3.1,y3.2)).bind λ(y2:(List (List Bound))×Int)=>
  some (.inl (y2.1,y2.2,(w64 (s1.2.2+1))))
 else
  some (.inr (s1.1,s1.2.1)))
def Zs (n:Int) (l:(List epactlaw24_Set)):Option ((List (List Bound))×Bool) :=
 (Z25 n).bind λx1=>
 (Z18 (Zs.s0 l) (x1.1,x1.2,0)).bind λ(y1:(List (List Bound))×Int)=>
 some (y1.1,(y1.2==0))
def Z0j.s2 (d:(List (List Bound))) (s2:Int×(List (List Bound))) (s3:Int×(List (List Bound))):Option ((Int×(List (List Bound)))⊕((List (List Bound)))) :=
 (bif (decide (s3.1<((d.length:Nat):Int))) then
  (Z18 (ZB.s3 d s2 s3) (0,s3.2)).bind λ(y5:(List (List Bound)))=>
  some (.inl ((w64 (s3.1+1)),y5))
 else
  some (.inr s3.2))
def Z0j.s1 (d:(List (List Bound))) (s2:Int×(List (List Bound))):Option ((Int×(List (List Bound)))⊕(Jx ((List (List Bound))) ((List (List Bound))×Bool×Int))) :=
 (bif (decide (s2.1<((d.length:Nat):Int))) then
  (
   (Z18 (Z0j.s2 d s2) (0,s2.2)).bind λ(y4:(List (List Bound)))=>
   (Z18 (ZB.s4 d y4) 0).bind λ(y9:Jx (Unit) (Unit))=>
   y9.elim (λa7=>
     some (false,y4)) λa6=>
   some (true,y4)).bind λ(y3:Bool×(List (List Bound)))=>
  (bif (!y3.1) then
   some (.inr (.ret ([],false,0)))
  else
   some (.inl ((w64 (s2.1+1)),y3.2)))
 else
  some (.inr (.go s2.2)))
def Z0j (d:(List (List Bound))):Option ((List (List Bound))×Bool×Int) :=
 (Z1y d).bind λx1=>
 (bif (!x1) then
  some ([],false,2)
 else
  (Z1R d).bind λx2=>
  (Z18 (ZB.s0 d) (0,x2)).bind λ(y1:Jx ((List (List Bound))) ((List (List Bound))×Bool×Int))=>
  y1.elim (λr'=>
    some r') λa2=>
  (Z18 (Z0j.s1 d) (0,a2)).bind λ(y2:Jx ((List (List Bound))) ((List (List Bound))×Bool×Int))=>
  y2.elim (λr'=>
    some r') λa8=>
  some (a8,true,0))
def Z1G.s0 (d:(List (List Bound))) (ticks:(List Int)) (s1:Int):Option ((Int)⊕(Jx (Unit) (Bool))) :=
 (bif (decide (s1<(d.length:Int))) then
  (at? d s1).bind λx2=>
  (Z18 (Ze.s1 ticks s1 x2) 0).bind λ(y2:Jx (Unit) (Bool))=>
  y2.elim (λr'=>
    some (.inr (.ret r'))) λa9=>
  some (.inl (w64 (s1+1)))
 else
  some (.inr (.go ())))
def Z1G (d:(List (List Bound))) (ticks:(List Int)):Option (Bool) :=
 (Z1y d).bind λx1=>
 (bif ((!x1)||((ticks.length:Int) != (d.length:Int))) then
  some false
 else
  (Z18 (Z1G.s0 d ticks) 0).bind λ(y1:Jx (Unit) (Bool))=>
  y1.elim (λr'=>
    some r') λa10=>
  some true)
def Z0z (m:(List (List Bound))) (n:Int):Option (Bool) :=
 (Z18 (Z5.s0 m n) 0).bind λ(y1:Jx (Unit) (Bool))=>
 y1.elim (λr'=>
   some r') λa2=>
 some ((m.length:Int)==n)
def Z0Y.s0 (a:(List (List Bound))) (b:(List (List Bound))) (s1:Int):Option ((Int)⊕(Jx (Unit) (Bool))) :=
 (bif (decide (s1<(a.length:Int))) then
  (at? a s1).bind λx1=>
  (at? b s1).bind λx2=>
  (bif ((x1.length:Int) != (x2.length:Int)) then
   some (.inr (.ret false))
  else
   (Z18 (Z0D.s1 a b s1) 0).bind λ(y2:Jx (Unit) (Bool))=>
   y2.elim (λr'=>
     some (.inr (.ret r'))) λa3=>
   some (.inl (w64 (s1+1))))
 else
  some (.inr (.go ())))
def Z0Y (a:(List (List Bound))) (b:(List (List Bound))):Option (Bool) :=
 (bif ((a.length:Int) != (b.length:Int)) then
  some false
 else
  (Z18 (Z0Y.s0 a b) 0).bind λ(y1:Jx (Unit) (Bool))=>
  y1.elim (λr'=>
    some r') λa4=>
  some true)
def Z1i (d:(List (List Bound))):Option ((List (List Bound))×Bool×Int) :=
 (bif d.isEmpty then
  some ([],true,0)
 else
  Z0j d)
def ev_epactlaw24_awakeO:Option (Bool) :=
 (Zs 2 [(epactlaw24_Set.mk 0 1 (ZI 5)),(epactlaw24_Set.mk 1 0 (ZI (-2)))]).bind λx1=>
 (Z1i x1.1).bind λx2=>
 (Zs 3 [(epactlaw24_Set.mk 0 1 (ZI 5)),(epactlaw24_Set.mk 1 0 (ZI (-2))),(epactlaw24_Set.mk 1 2 (ZI 1))]).bind λx3=>
 (Z1i x3.1).bind λx4=>
 (Zs 2 [(epactlaw24_Set.mk 0 1 (ZI 5)),(epactlaw24_Set.mk 1 0 (ZI (-6)))]).bind λx5=>
 (Z1i x5.1).bind λx6=>
 (Z25 2).bind λx7=>
 (
  (bif ((((((((((!x1.2)||(!x3.2))||(!x5.2))||(!x2.2.1))||(!x4.2.1))||x6.2.1)||(x2.2.2 != 0))||(x4.2.2 != 0))||(x6.2.2 != 0))||(x7.2 != 0)) then
   some true
  else
   (Z0z x4.1 3).bind λx8=>
   some (!x8))).bind λ(y1:Bool)=>
 (
  (bif y1 then
   some true
  else
   (Z0z x7.1 2).bind λx9=>
   some (!x9))).bind λ(y2:Bool)=>
 (bif y2 then
  some false
 else
  (Z0Y x2.1 x1.1).bind λx10=>
  (
   (bif x10 then
    (at? x4.1 0).bind λx11=>
    (at? x11 2).bind λx12=>
    some ((x12.Inf==((ZI 6).Inf))&&((x12.N==((ZI 6).N))&&true))
   else
    some false)).bind λ(y3:Bool)=>
  (
   (bif y3 then
    (at? x7.1 0).bind λx13=>
    (at? x13 0).bind λx14=>
    some ((x14.Inf==((ZI 0).Inf))&&((x14.N==((ZI 0).N))&&true))
   else
    some false)).bind λ(y4:Bool)=>
  (
   (bif y4 then
    (at? x7.1 0).bind λx15=>
    (at? x15 1).bind λx16=>
    some ((x16.Inf==1)&&((x16.N==0)&&true))
   else
    some false)).bind λ(y5:Bool)=>
  (
   (bif y5 then
    (Z1G x1.1 [3,7]).bind λx17=>
    some x17
   else
    some false)).bind λ(y6:Bool)=>
  (
   (bif y6 then
    (Z1G x1.1 [3,9]).bind λx18=>
    some (!x18)
   else
    some false)).bind λ(y7:Bool)=>
  some y7)
end
end Go.Dn

namespace Go.Dn
open Go Go.Proofs
set_option maxRecDepth 100000
set_option maxHeartbeats 4000000
abbrev vl {α:Type} (c:α->List FV) (x:List α):PV:=.v (.sl (x.map c))
abbrev vi (x:Int):PV:=.v (.int .i64 x)
abbrev vu (x:Int):PV:=.v (.int .u64 x)
abbrev vb (x:Bool):PV:=.v (.bool x)
section
theorem Ops.wt {X:Ctx} {n:Nat} {dr:Bool} {ops:Array Oper} {base i:Nat} {l:List Oper} {e:Env} {G:Heap} {K:Env->Heap->Prop} {op:Op} {t:TypeId} {p:String} {af:Array Edge} {j:Nat} {g:Tmp} {w:Bool} {dst:Option Tmp} (hg:(ops[j]?).bind (·.dst)=some g) (he:e g = .v (.bool w)) (hk:Ops X n dr ops base i (⟨dst,op,t,p,af,none⟩::l) e G K):Ops X n dr ops base i (⟨dst,op,t,p,af,some (j,w)⟩::l) e G K:=.wanted hg he hk
variable {X:Ctx} {n:Nat} {dr:Bool} {ops:Array Oper} {base i:Nat} {l:List Oper} {e:Env} {G:Heap} {K:Env->Heap->Prop} {d:Nat} {t t1 t2:TypeId} {p:String} {af:Array Edge} {x y:Operand} {lo hi:Nat} {L:List Res}
theorem Ops.mv (v:PV) (hx:Z0 X e x=some v) (hd:Nat.blt d n=true) (hk:Ops X n dr ops base (i+1) l (set e d v) G K):Ops X n dr ops base i (⟨some d,.move x,t,p,af,none⟩::l) e G K:=.move hx hd hk
theorem Ops.av (v:PV) (hx:Z0 X e x=some v) (hd:Nat.blt d n=true) (hk:Ops X n dr ops base (i+1) l (set e d v) G K):Ops X n dr ops base i (⟨some d,.assign x,t,p,af,none⟩::l) e G K:=.assign hx hd hk
theorem Ops.it {op:BinOp} {k:IntKind} (m m':Int) (r:FV) (hx:Z0 X e x=some (.v (.int k m))) (hy:Z0 X e y=some (.v (.int k m'))) (hop:(op != .shl&&op != .shr)=true) (hr:Z2w op k m m'=some r) (hd:Nat.blt d n=true) (hk:Ops X n dr ops base (i+1) l (set e d (.v r)) G K):Ops X n dr ops base i (⟨some d,.binOp op t1 x y t2,t,p,af,none⟩::l) e G K:=.int hx hy hop hr hd hk
theorem Ops.xt (v:PV) {vs:List PV} {j:Nat} (hx:Z0 X e x=some (.tup vs)) (hj:vs[j]? = some v) (hd:Nat.blt d n=true) (hk:Ops X n dr ops base (i+1) l (set e d v) G K):Ops X n dr ops base i (⟨some d,.extract x j,t,p,af,none⟩::l) e G K:=.extract hx hj hd hk
theorem Ops.ld (v:PV) {id ver off:Nat} {te:TypeId} {cells:List PV} (H:Has G lo hi L) (k:Nat) (hk:L[k]? = some (.blk id te cells)) (hv:cells.length=ver) (hx:Z0 X e x=some (.ptr id ver off)) (hg:tagg X.P t1=some false) (hc:cells[off]? = some v) (ha:dr=true->Seen ops base i id false) (hd:Nat.blt d n=true) (hk':Ops X n dr ops base (i+1) l (set e d v) G K):Ops X n dr ops base i (⟨some d,.load t1 x,t,p,af,none⟩::l) e G K:=.loadH H k hk hv hx hg hc ha hd hk'
end
theorem sk {α:Type} {a b:α} (h:some a=some b):b=a:=(Option.some.inj h).symm
theorem V {α:Sort _} {a:α}:a=a:=rfl
theorem U:True:=trivial
theorem Has.wk {G:Heap} {lo hi:Nat} {L:List Res} (H:Has G lo hi L) {lo':Nat} (h:lo<=lo'):Has G lo' hi L:=H.weak h (Y8 _)
theorem sj {α:Type} {a b:α} (h:some a=some b):a=b:=Option.some.inj h
end Go.Dn

namespace Go.Dn
open Go Go.Proofs
set_option maxRecDepth 100000
set_option maxHeartbeats 4000000
end Go.Dn

namespace Go.Dn
open Go Go.Proofs
def ownZ (f:FuncId):Bool:=f==13||f==41||f==44||f==48||f==69||f==70||f==78||f==79
noncomputable def CZ:Ctx:={ P:=Try.prog,glob:=λ_=>none,intr:=λf args=>if ownZ f then none else liftI CX f args,opn:=λf=>f==41||f==44||f==69||f==70||f==78||f==79,keep:=λf=>f==70,thaw:=λf=>f==48,hold:=λt ps=>match t,ps with|62,[(0,.tmp 42),(1,.tmp 43)]=>true|_,_=>false }
theorem cz_ok:CtxOK CZ:=by
 refine ⟨Z3L,λf args r h s hi hG vs hv hp=>?_⟩
 have h:(if ownZ f then none else liftI CX f args)=some r:=h
 split at h
 ·cases h
 ·have hF:=liftI_fn h;obtain ⟨k,hk⟩:=Z0G.1 (hF.call s.G);exact Z3S cx_ok k (.fn f) args r s.G s hk hi hG vs hv
end Go.Dn

namespace Go.Dn
open Go Go.Proofs
set_option maxRecDepth 100000
set_option maxHeartbeats 4000000
end Go.Dn

namespace Go.Dn
open Go
theorem Z1s {S R:Type} {step:S->Option (S⊕R)} (I:S->Prop) (m:S->Nat) (post:R->Prop)
  (h:∀ s,I s->(∃ s',step s=some (.inl s')/\I s'/\m s'<m s)\/(∃ r,step s=some (.inr r)/\post r)):∀ s,I s->∃ r,ZQ step s=some r/\post r:=by
 have key:∀ n s,m s=n->I s->∃ r,ZQ step s=some r/\post r:=by
  intro n
  induction n using Nat.strongRecOn with
  | _ n ih=>
   intro s hm hI;rcases h s hI with ⟨s',h1,h2,h3⟩|⟨r,h1,h2⟩
   ·obtain ⟨r,q1,q2⟩:=ih (m s') (by omega) s' rfl h2
    exact ⟨r,by rw [loopO_eq,h1];exact q1,q2⟩
   ·exact ⟨r,by rw [loopO_eq,h1],h2⟩
 exact λs hI=>key _ s rfl hI
theorem Z0O {S R:Type} {step:S->Option (S⊕R)} (I:S->R->Prop) (m:S->Nat)
  (h:∀ s r,I s r->(∃ s',step s=some (.inl s')/\I s' r/\m s'<m s)\/step s=some (.inr r)) {s:S} {r:R} (hI:I s r):ZQ step s=some r:=by
 obtain ⟨r',h1,h2⟩:=Z1s (I:=λs=>I s r) m (λr'=>r'=r) (λs hs=>by
  rcases h s r hs with ⟨s',h1,h2,h3⟩|h1
  ·exact .inl ⟨s',h1,h2,h3⟩
  ·exact .inr ⟨r,h1,rfl⟩) s hI
 rw [h1,h2]
theorem wrap_i64 (a:Int):IntKind.i64.wrap a=(a+9223372036854775808) % 18446744073709551616-9223372036854775808:=by
 simp [IntKind.wrap,IntKind.bits,IntKind.signed]
 split<;>omega
theorem Z3R (a:Int):IntKind.u64.wrap a=a % 18446744073709551616:=by
 simp [IntKind.wrap,IntKind.bits,IntKind.signed]
theorem okI_u8 {x:Int}:okI .u8 x↔0<=x/\x<=255:=Iff.rfl
theorem Zt {x:Int} (h : -9223372036854775808<=x/\x<=9223372036854775807):w64 x=x:=by
 unfold w64;rw [wrap_i64];omega
theorem room_eq:room=140737488355328:=rfl
theorem at?_lt {α:Type} {l:List α} {i:Int} (h0:0<=i) (h:i<l.length):at? l i=some (l[i.toNat]'(by omega)):=by
 unfold at?;rw [if_pos h0,Y6]
theorem at?_nat {α:Type} {l:List α} {k:Nat} (h:k<l.length):at? l (k:Int)=some l[k]:=by
 rw [at?_lt (by omega) (by omega)];rfl
theorem app?_ok {α:Type} {b:Nat} {l m:List α} (h:(l.length+m.length)*b<=room):app? b l m=some (l++m):=if_pos h
theorem nz?_ok {b:Int} (h:b≠0):nz? b=some ():=if_neg h
theorem beq_t {a b:Int} (h:a=b):(a==b)=true:=by simp [h]
theorem beq_f {a b:Int} (h:a≠b):(a==b)=false:=by simp [h]
theorem bne_t {a b:Int} (h:a≠b):(a != b)=true:=by simp [h]
theorem bne_f {a b:Int} (h:a=b):(a != b)=false:=by simp [h]
theorem Z0y {p:Prop} [Decidable p] (h:p):decide p=true:=by simp [h]
theorem Z0I {p:Prop} [Decidable p] (h:¬ p):decide p=false:=by simp [h]
theorem first_bad {α:Type} {l:List α} {good:Nat->α->Prop} (h:¬ ∀ k x,l[k]? = some x->good k x):∃ (k:Nat) (x:α),l[k]? = some x/\¬ good k x/\∀ j y,j<k->l[j]? = some y->good j y:=by
 have hex:∃ k:Nat,∃ x,l[k]? = some x/\¬ good k x:=by
  apply Classical.byContradiction;intro hn;exact h λk x hk=>Classical.byContradiction λhg=>hn ⟨k,x,hk,hg⟩
 obtain ⟨k,hk⟩:=hex
 induction k using Nat.strongRecOn with
 | _ k ih=>
  by_cases h:∃ j,j<k/\∃ x,l[j]? = some x/\¬ good j x
  ·obtain ⟨j,hj,hx⟩:=h;exact ih j hj hx
  ·obtain ⟨x,hx,hb⟩:=hk;exact ⟨k,x,hx,hb,λj y hj hy=>Classical.byContradiction λhg=>h ⟨j,hj,y,hy,hg⟩⟩
theorem all_loop {α R:Type} {l:List α} {step:Int->Option (Int⊕R)} (good:Nat->α->Prop) {no yes:R}
  (hstep:∀ (k:Nat) (x:α),l[k]? = some x->(∀ j y,j<k->l[j]? = some y->good j y)->(step (k:Int)=some (.inl ((k:Int)+1))/\good k x)\/(step (k:Int)=some (.inr no)/\¬ good k x))
  (hend:step (l.length:Int)=some (.inr yes)):(ZQ step 0=some yes/\∀ k x,l[k]? = some x->good k x)\/(ZQ step 0=some no/\¬ ∀ k x,l[k]? = some x->good k x):=by
 by_cases hall:∀ k x,l[k]? = some x->good k x
 ·refine .inl ⟨?_,hall⟩;refine Z0O (I:=λ(s:Int) r=>r=yes/\∃ k:Nat,s=k/\k<=l.length) (λs=>(l.length-s.toNat)) ?_ ⟨rfl,0,rfl,YX _⟩;rintro s r ⟨rfl,k,rfl,hk⟩
  by_cases hlt:k<l.length
  ·rcases hstep k l[k] (Y6 hlt) (λj y _ hy=>hall j y hy) with ⟨h1,_⟩|⟨_,h2⟩
   ·exact .inl ⟨_,h1,⟨rfl,k+1,by push_cast;rfl,hlt⟩,by simp;omega⟩
   ·exact absurd (hall k _ (Y6 hlt)) h2
  ·have:k=l.length:=by omega
   subst this;exact .inr hend
 ·refine .inr ⟨?_,hall⟩;obtain ⟨k0,x0,hx0,hb0,hgood⟩:=first_bad hall;have hlt0:=(List.getElem?_eq_some_iff.1 hx0).1;refine Z0O (I:=λ(s:Int) r=>r=no/\∃ k:Nat,s=k/\k<=k0) (λs=>(l.length-s.toNat)) ?_ ⟨rfl,0,rfl,YX _⟩;rintro s r ⟨rfl,k,rfl,hk⟩
  by_cases hlt:k<k0
  ·have hkl:k<l.length:=by omega
   rcases hstep k l[k] (Y6 hkl) (λj y hj hy=>hgood j y (by omega) hy) with ⟨h1,_⟩|⟨_,h2⟩
   ·exact .inl ⟨_,h1,⟨rfl,k+1,by push_cast;rfl,hlt⟩,by simp;omega⟩
   ·exact absurd (hgood k _ hlt (Y6 hkl)) h2
  ·have:k=k0:=by omega
   subst this;rcases hstep k x0 hx0 hgood with ⟨_,h2⟩|⟨h1,_⟩
   ·exact absurd h2 hb0
   ·exact .inr h1
end Go.Dn

namespace Go.Dn
open Go
def In64 (a:Int):Prop:=-9223372036854775808<=a/\a<=9223372036854775807
def InU64 (a:Int):Prop:=0<=a/\a<=18446744073709551615
def fitS (a:Int):Int×Int:=if -9223372036854775808<=a/\a<=9223372036854775807 then (a,0) else (0,10)
theorem fitS_of {a:Int} (h:In64 a):fitS a=(a,0):=if_pos h
theorem and32 (x:Int) (h:InU64 x):(((BitVec.ofInt 64 x &&& BitVec.ofInt 64 4294967295).toNat:Nat):Int)=x % 4294967296:=by
 obtain ⟨n,rfl⟩:=Int.eq_ofNat_of_zero_le h.1
 have hn:n<2 ^ 64:=by have:=h.2;omega
 have h1:(BitVec.ofInt 64 (n:Int)).toNat=n:=by simp [BitVec.toNat_ofInt];omega
 have h2:(BitVec.ofInt 64 4294967295).toNat=2 ^ 32-1:=by decide
 rw [BitVec.toNat_and,h1,h2,Nat.and_two_pow_sub_one_eq_mod]
 omega
theorem mul64_fact {x y:Int} (hx:InU64 x) (hy:InU64 y) :
  (x / 4294967296*(y / 4294967296)+(x / 4294967296*(y % 4294967296)+x % 4294967296*(y % 4294967296) / 4294967296) / 4294967296 +
   ((x / 4294967296*(y % 4294967296)+x % 4294967296*(y % 4294967296) / 4294967296) % 4294967296+x % 4294967296*(y / 4294967296)) / 4294967296)=x*y / 18446744073709551616 /\
  0<=x % 4294967296*(y % 4294967296)/\x % 4294967296*(y % 4294967296)<=18446744065119617025 /\
  0<=x / 4294967296*(y % 4294967296)/\x / 4294967296*(y % 4294967296)<=18446744065119617025 /\
  0<=x % 4294967296*(y / 4294967296)/\x % 4294967296*(y / 4294967296)<=18446744065119617025 /\
  0<=x / 4294967296*(y / 4294967296)/\x / 4294967296*(y / 4294967296)<=18446744065119617025:=by
 have b:∀ {u v:Int},0<=u->u<=4294967295->0<=v->v<=4294967295->0<=u*v/\u*v<=18446744065119617025:=by
  intro u v h1 h2 h3 h4;exact ⟨Int.mul_nonneg h1 h3,Int.le_trans (Int.mul_le_mul h2 h4 h3 (by omega)) (by decide)⟩
 obtain ⟨hx1,hx2⟩:=hx
 obtain ⟨hy1,hy2⟩:=hy
 obtain ⟨a1,a2⟩:=b (u:=x % 4294967296) (v:=y % 4294967296) (by omega) (by omega) (by omega) (by omega)
 obtain ⟨b1,b2⟩:=b (u:=x / 4294967296) (v:=y % 4294967296) (by omega) (by omega) (by omega) (by omega)
 obtain ⟨c1,c2⟩:=b (u:=x % 4294967296) (v:=y / 4294967296) (by omega) (by omega) (by omega) (by omega)
 obtain ⟨d1,d2⟩:=b (u:=x / 4294967296) (v:=y / 4294967296) (by omega) (by omega) (by omega) (by omega)
 refine ⟨?_,a1,a2,b1,b2,c1,c2,d1,d2⟩
 have e:x*y=x / 4294967296*(y / 4294967296)*18446744073709551616+(x / 4294967296*(y % 4294967296)+x % 4294967296*(y / 4294967296))*4294967296+x % 4294967296*(y % 4294967296):=by
  have ex:x=x / 4294967296*4294967296+x % 4294967296:=by omega
  have ey:y=y / 4294967296*4294967296+y % 4294967296:=by omega
  clear a1 a2 b1 b2 c1 c2 d1 d2 b hx1 hx2 hy1 hy2
  generalize x / 4294967296=x1 at *
  generalize x % 4294967296=x0 at *
  generalize y / 4294967296=y1 at *
  generalize y % 4294967296=y0 at *
  subst ex ey;simp only [Int.add_mul,Int.mul_add];have h1:x1*4294967296*(y1*4294967296)=x1*y1*18446744073709551616:=by
   rw [Yu,Int.mul_comm 4294967296,Yu y1,<- Yu]
   rfl
  have h2:x1*4294967296*y0=x1*y0*4294967296:=by rw [Yu,Int.mul_comm 4294967296,<- Yu]
  have h3:x0*(y1*4294967296)=x0*y1*4294967296:=by rw [<- Yu]
  rw [h1,h2,h3];omega
 rw [e]
 generalize x / 4294967296*(y / 4294967296)=d at *
 generalize x / 4294967296*(y % 4294967296)=b' at *
 generalize x % 4294967296*(y / 4294967296)=c at *
 generalize x % 4294967296*(y % 4294967296)=a at *
 omega
theorem safe_Add_eq {a b:Int} (ha:In64 a) (hb:In64 b):Z2O a b=fitS (a+b):=by
 unfold In64 at ha hb
 unfold Z2O fitS w64
 rw [wrap_i64]
 cases h:((decide ((a+b+9223372036854775808) % 18446744073709551616-9223372036854775808>a) != decide (b>0))&&b != 0)
 ·rw [cond_false];simp only [Bool.and_eq_false_iff,bne_eq_false_iff_eq,decide_eq_decide] at h
  split<;>simp only [Y1,and_true]<;>omega
 ·rw [cond_true];simp only [Y7,bne_iff_ne,ne_eq,decide_eq_decide] at h
  split<;>simp only [Y1]<;>omega
theorem mul64_eq {x y:Int} (hx:InU64 x) (hy:InU64 y):Z0U x y=(x*y / 18446744073709551616,x*y % 18446744073709551616):=by
 unfold Z0U
 have hb:∀ z:Int,z.fdiv (2 ^ 32)=z / 4294967296:=λz=>Int.fdiv_eq_ediv_of_nonneg z (by decide)
 have hm:(IntKind.u64.bits)=64:=rfl
 obtain ⟨h1,h2,h3,h4,h5,h6,h7,h8,h9⟩:=mul64_fact hx hy
 have hw:∀ z:Int,0<=z->z<=18446744073709551615->IntKind.u64.wrap z=z:=λz q1 q2=>by rw [Z3R];omega
 simp only [hb,iAnd]
 rw [hm,and32 x hx,and32 y hy]
 have x0:0<=x % 4294967296/\x % 4294967296<4294967296:=by omega
 have y0:0<=y % 4294967296/\y % 4294967296<4294967296:=by omega
 rw [hw (x % 4294967296) (by omega) (by omega),hw (y % 4294967296) (by omega) (by omega),hw _ h2 (by omega),hw _ h4 (by omega),hw _ h6 (by omega),hw _ h8 (by omega)]
 rw [hw (x / 4294967296*(y % 4294967296)+x % 4294967296*(y % 4294967296) / 4294967296) (by omega) (by omega)]
 rw [and32 _ ⟨by omega,by omega⟩]
 have t0:0<=(x / 4294967296*(y % 4294967296)+x % 4294967296*(y % 4294967296) / 4294967296) % 4294967296/\(x / 4294967296*(y % 4294967296)+x % 4294967296*(y % 4294967296) / 4294967296) % 4294967296<4294967296:=by omega
 rw [hw ((x / 4294967296*(y % 4294967296)+x % 4294967296*(y % 4294967296) / 4294967296) % 4294967296) (by omega) (by omega)]
 rw [hw ((x / 4294967296*(y % 4294967296)+x % 4294967296*(y % 4294967296) / 4294967296) % 4294967296+x % 4294967296*(y / 4294967296)) (by omega) (by omega)]
 rw [hw (x / 4294967296*(y / 4294967296)+(x / 4294967296*(y % 4294967296)+x % 4294967296*(y % 4294967296) / 4294967296) / 4294967296) (by omega) (by omega)]
 rw [hw _ (by omega) (by omega),h1,Z3R]
def floorS (a b:Int):Int×Int×Int:=if b=0 then (0,0,11) else if b = -1/\a = -9223372036854775808 then (0,0,10) else (a.fdiv b,a.fmod b,0)
end Go.Dn

namespace Go.Dn
open Go
def bd:Option Int->Bound
 | none=>⟨1,0⟩
 | some k=>⟨0,k⟩
def ole (a b:Option Int):Prop:=match b with
 | none=>True
 | some k=>match a with
  | none=>False
  | some l=>l<=k
def oadd (a b:Option Int):Option Int:=match a,b with
 | some x,some y=>some (x+y)
 | _,_=>none
def omin (a b:Option Int):Option Int:=match a,b with
 | none,b=>b
 | a,none=>a
 | some x,some y=>some (if x<y then x else y)
def olt (a b:Option Int):Bool:=match a,b with
 | none,_=>false
 | some _,none=>true
 | some x,some y=>decide (x<y)
def inB (B:Int) (a:Option Int):Prop:=match a with
 | none=>True
 | some x=>-B<=x/\x<=B
theorem Z0i (a:Option Int):ole a a:=by cases a<;>simp [ole]
theorem ole_none (a:Option Int):ole a none:=trivial
theorem Z0m {a b c:Option Int} (h1:ole a b) (h2:ole b c):ole a c:=by
 cases a<;>cases b<;>cases c<;>simp [ole] at *<;>omega
theorem Z2d {a b c d:Option Int} (h1:ole a c) (h2:ole b d):ole (oadd a b) (oadd c d):=by
 cases a<;>cases b<;>cases c<;>cases d<;>simp [ole,oadd] at *<;>omega
theorem ole_min {a b c:Option Int} (h1:ole c a) (h2:ole c b):ole c (omin a b):=by
 cases a<;>cases b<;>cases c<;>simp [ole,omin] at *<;>(try split)<;>omega
theorem omin_l (a b:Option Int):ole (omin a b) a:=by
 cases a<;>cases b<;>simp [ole,omin]<;>(try split)<;>omega
theorem omin_r (a b:Option Int):ole (omin a b) b:=by
 cases a<;>cases b<;>simp [ole,omin]<;>(try split)<;>omega
theorem omin_or (a b:Option Int):omin a b=a\/omin a b=b:=by
 cases a<;>cases b<;>simp [omin]<;>omega
theorem Z3h (a b:Option Int):omin a b=if olt a b=true then a else b:=by
 cases a<;>cases b<;>simp [omin,olt]
 split<;>rfl
theorem omin_self {a b:Option Int} (h:ole a b):omin a b=a:=by
 cases a<;>cases b<;>simp [omin,ole] at *<;>omega
theorem oadd_zero (a:Option Int):oadd a (some 0)=a:=by cases a<;>simp [oadd]
theorem zero_oadd (a:Option Int):oadd (some 0) a=a:=by cases a<;>simp [oadd]
theorem Z22 (a b c:Option Int):oadd (oadd a b) c=oadd a (oadd b c):=by
 cases a<;>cases b<;>cases c<;>simp [oadd,Int.add_assoc]
theorem inB_add {B:Int} {a b:Option Int} (h1:inB B a) (h2:inB B b):inB (2*B) (oadd a b):=by
 cases a<;>cases b<;>simp [inB,oadd] at *<;>omega
theorem Z2M {B C:Int} {a:Option Int} (h:inB B a) (hc:B<=C):inB C a:=by
 cases a<;>simp [inB] at *<;>omega
theorem inB_min {B:Int} {a b:Option Int} (h1:inB B a) (h2:inB B b):inB B (omin a b):=by
 rcases omin_or a b with h|h<;>rw [h]<;>assumption
theorem less_bd (a b:Option Int):Zu (bd a) (bd b)=olt a b:=by
 cases a with
 | none=>cases b<;>simp [bd,olt,Zu,Z03]
 | some x=>
  cases b with
  | none=>simp [bd,olt,Zu,Z03]
  | some y=>rfl
theorem sum_bd {a b:Option Int} {B:Int} (hB:B<=2305843009213693952) (h1:inB B a) (h2:inB B b):Z0P (bd a) (bd b)=(bd (oadd a b),0):=by
 cases a with
 | none=>cases b<;>simp [bd,oadd,Z0P,Z03]
 | some x=>
  cases b with
  | none=>simp [bd,oadd,Z0P,Z03]
  | some y=>
   simp only [inB] at h1 h2;have e:Z2O x y=(x+y,0):=by
    rw [safe_Add_eq (by unfold In64;omega) (by unfold In64;omega),fitS_of (by unfold In64;omega)]
   simp [bd,oadd,Z0P,Z03,e]
theorem less_zero (a:Option Int):Zu (bd a) (Bound.mk 0 0)=olt a (some 0):=less_bd a (some 0)
theorem may_bd {a:Option Int} (h:inB 1125899906842624 a):Z2A (bd a)=true:=by
 cases a with
 | none=>rfl
 | some x=>
  simp only [inB] at h;unfold Z2A bd;simp only [];rw [Z0y (p:=x>=_) (by omega),Z0y (p:=x<=_) (by omega)]
  rfl
def rowM (n:Nat) (M:Nat->Nat->Option Int) (i:Nat):List Bound:=(List.range n).map λj=>bd (M i j)
def Mat (n:Nat) (M:Nat->Nat->Option Int):List (List Bound):=(List.range n).map λi=>rowM n M i
def updM (M:Nat->Nat->Option Int) (i j:Nat) (v:Option Int):Nat->Nat->Option Int:=λa b=>if a=i/\b=j then v else M a b
section
variable {n:Nat} {M A:Nat->Nat->Option Int}
theorem Z0W:(Mat n M).length=n:=by simp [Mat]
theorem Z1m {i:Nat}:(rowM n M i).length=n:=by simp [rowM]
theorem Z1B {i:Nat} (h:i<n):at? (Mat n M) (i:Int)=some (rowM n M i):=by
 rw [at?_nat (by rw [Z0W];exact h)];simp [Mat]
theorem Z12 {i j:Nat} (h:j<n):at? (rowM n M i) (j:Int)=some (bd (M i j)):=by
 rw [at?_nat (by rw [Z1m];exact h)];simp [rowM]
theorem Z1I (h:∀ i j,i<n->j<n->M i j=A i j):Mat n M=Mat n A:=by
 unfold Mat rowM
 apply List.map_congr_left
 intro i hi
 apply List.map_congr_left
 intro j hj
 rw [h i j (by simpa using hi) (by simpa using hj)]
theorem Mat_set {i j:Nat} (v:Option Int):(Mat n M).set i ((rowM n M i).set j (bd v))=Mat n (updM M i j v):=by
 apply List.ext_getElem
 ·simp [Mat]
 ·intro a h1 h2;have ha:a<n:=by simpa [Mat] using h2
  rw [List.getElem_set]
  by_cases hai:i=a
  ·subst hai;rw [if_pos rfl];apply List.ext_getElem
   ·simp [Mat,rowM]
   ·intro b g1 g2;rw [List.getElem_set]
    by_cases hbj:j=b
    ·subst hbj;simp [Mat,rowM,updM]
    ·rw [if_neg hbj];simp [Mat,rowM,updM,Ne.symm hbj]
  ·rw [if_neg hai];simp [Mat,rowM,updM,Ne.symm hai]
theorem Mat_set' {i j:Nat} (v:Option Int):(Mat n M).set ((i:Int)).toNat ((rowM n M i).set ((j:Int)).toNat (bd v))=Mat n (updM M i j v):=Mat_set v
end
theorem repeat_eq {n:Nat} (h1:1<=n) (h2:n<=24) (a:Bound):ZA [a] (n:Int)=some (List.replicate n a):=by
 have hmul:ZW (IntKind.u64.wrap (([a] : List Bound).length:Int)) (IntKind.u64.wrap (n:Int))=(0,(n:Int)):=by
  have e1:IntKind.u64.wrap (([a] : List Bound).length:Int)=1:=by rw [Z3R];rfl
  have e2:IntKind.u64.wrap (n:Int)=n:=by rw [Z3R];omega
  rw [e1,e2];unfold ZW;rw [mul64_eq (by unfold InU64;omega) (by unfold InU64;omega)]
  simp only [Y1];omega
 unfold ZA
 rw [Z0I (by omega),cond_false,hmul]
 simp only []
 rw [Z0I (by omega),Z0I (by omega),Bool.or_self,cond_false,Zt (by omega)]
 have hnew:new? 16 (n:Int) (Bound.mk 0 0)=some (List.replicate n ⟨0,0⟩):=by
  unfold new?;rw [if_pos ⟨by omega,by rw [room_eq];omega⟩,YJ]
 rw [hnew,Y3]
 have hcp:cpy (List.replicate n (⟨0,0⟩ : Bound)) [a]=a::List.replicate (n-1) ⟨0,0⟩:=by
  unfold cpy;rw [List.length_replicate,List.length_singleton,Nat.min_eq_left h1,List.drop_replicate]
  rfl
 have hmin:(min ([a] : List Bound).length (List.replicate n (⟨0,0⟩ : Bound)).length:Nat)=1:=by
  rw [List.length_replicate,List.length_singleton,Nat.min_eq_left h1]
 rw [hcp,hmin]
 have key:=Z0O (step:=ZA.s0 [a] (n:Int)) (I:=λs r=>r=List.replicate n a/\∃ p:Nat,s.1=(p:Int)/\1<=p/\p<=n/\s.2.length=n/\s.2.take p=List.replicate p a) (λs=>n-s.1.toNat) ?_ (s:=(((1:Nat):Int),a::List.replicate (n-1) ⟨0,0⟩)) (r:=List.replicate n a) ⟨rfl,1,rfl,Y8 _,h1,by simp;omega,rfl⟩
 ·rw [key];rfl
 ·rintro ⟨s1,xs⟩ r ⟨rfl,p,hp,hp1,hpn,hlen,htake⟩;simp only at hp hlen htake;subst hp;unfold ZA.s0;rw [hmul];simp only [hlen]
  by_cases hlt:p<n
  ·rw [Z0y (by omega),cond_true,Zt (x:=(n:Int)) (by omega),YJ,YJ]
   have w1:winA (p:Int) n=some ():=if_pos ⟨by omega,by omega⟩
   have w2:winB (p:Int) n=some ():=if_pos ⟨by omega,by omega⟩
   rw [w1,w2,Y3,Y3];refine .inl ⟨_,rfl,⟨trivial,p+min p (n-p),?_,by omega,by omega,?_,?_⟩,?_⟩
   ·rw [Zt (by omega)];push_cast;rfl
   ·simp only [dbl,YR,Yj,List.length_drop,hlen];omega
   ·have hd:dbl xs p=List.replicate p a++List.replicate (min p (n-p)) a++xs.drop (p+min p (n-p)):=by
     unfold dbl;rw [htake,hlen,List.take_replicate,Nat.min_comm (n-p) p]
    simp only [hd];rw [List.replicate_append_replicate,List.take_append_of_le_length (by simp),Yi (by simp)]
   ·simp only [YJ];rw [Zt (by omega)]
    omega
  ·have hpe:p=n:=by omega
   subst hpe;rw [Z0I (by omega),cond_false]
   refine .inr ?_;rw [Yi (by omega)] at htake
   rw [htake]
end Go.Dn

namespace Go.Dn
open Go
def newM:Nat->Nat->Option Int:=λa b=>if a=b then some 0 else none
def BdM (n:Nat) (M:Nat->Nat->Option Int) (B:Int):Prop:=∀ i j,i<n->j<n->inB B (M i j)
theorem stp_New_eq {n:Nat} (h1:1<=n) (h2:n<=24):Z2D (n:Int)=some (Mat n newM,0):=by
 unfold Z2D
 rw [Z0I (by omega),Z0I (by omega),Bool.or_self,cond_false]
 have hnew:new? 24 (n:Int) ([] : List Bound)=some (List.replicate n []):=by
  unfold new?;rw [if_pos ⟨by omega,by rw [room_eq];omega⟩,YJ]
 rw [hnew,Y3]
 have key:=Z0O (step:=Z2D.s0 (n:Int)) (I:=λs r=>r=Mat n newM/\∃ p:Nat,s.1=(p:Int)/\p<=n/\s.2.length=n/\∀ a,a<p->s.2[a]? = some (rowM n newM a)) (λs=>n-s.1.toNat) ?_ (s:=(0,List.replicate n [])) (r:=Mat n newM) ⟨rfl,0,rfl,YX _,by simp,λa ha=>absurd ha (Nat.not_lt_zero _)⟩
 ·rw [key];rfl
 ·rintro ⟨s1,L⟩ r ⟨rfl,p,hp,hpn,hlen,hL⟩;simp only at hp hlen hL;subst hp;unfold Z2D.s0;simp only []
  by_cases hlt:p<n
  ·rw [Z0y (by omega),cond_true,repeat_eq h1 h2,Y3,at?_nat (by omega),Y3,YJ,at?_nat (by rw [List.length_set];omega),Y3,List.getElem_set_self]
   rw [at?_nat (by simpa using hlt),Y3]
   refine .inl ⟨_,rfl,⟨trivial,p+1,?_,by omega,?_,?_⟩,?_⟩
   ·simp only [];rw [Zt (by omega)];push_cast;rfl
   ·simp [hlen]
   ·intro a ha;simp only [Yn]
    by_cases hap:p=a
    ·subst hap;rw [if_pos rfl,if_pos (by simp;omega)]
     congr 1
     apply List.ext_getElem
     ·simp [rowM]
     ·intro b g1 g2;rw [List.getElem_set]
      by_cases hb:p=b
      ·subst hb;simp [rowM,newM,bd]
      ·rw [if_neg hb];simp [rowM,newM,bd,hb]
    ·rw [if_neg hap,if_neg hap];exact hL a (by omega)
   ·simp only [];rw [Zt (by omega)];omega
  ·have hpe:p=n:=by omega
   subst hpe;rw [Z0I (by omega),cond_false]
   refine .inr ?_;have e:L=Mat p newM:=by
    apply List.ext_getElem?;intro a
    by_cases ha:a<p
    ·rw [hL a ha];simp [Mat,ha]
    ·rw [Yv (by omega),Yv (by rw [Z0W];omega)]
   rw [e]
theorem findB_none {s:List Bound} {f:Bound->Option Bool} (hs:(s.length:Int)<4611686018427387904) (h:∀ x∈s,f x=some false):Zg s f=some false:=by
 unfold Zg ZF
 have key:=Z0O (step:=ZF.s0 s f) (I:=λ(i:Int) r=>r = .go ()/\∃ k:Nat,i=k/\k<=s.length) (λi=>s.length-i.toNat) ?_ (s:=0) (r:=.go ()) ⟨rfl,0,rfl,YX _⟩
 ·rw [key];rfl
 ·rintro i r ⟨rfl,k,rfl,hk⟩;unfold ZF.s0
  by_cases hlt:k<s.length
  ·rw [Z0y (by omega),cond_true,at?_nat hlt,Y3,h _ (Y02 hlt)]
   refine .inl ⟨_,rfl,⟨rfl,k+1,by rw [Zt (by omega)];push_cast;rfl,hlt⟩,by rw [Zt (by omega)];omega⟩
  ·rw [Z0I (by omega),cond_false];exact .inr rfl
theorem findR_none {s:List (List Bound)} {f:List Bound->Option Bool} (hs:(s.length:Int)<4611686018427387904) (h:∀ x∈s,f x=some false):Za s f=some false:=by
 unfold Za ZC
 have key:=Z0O (step:=ZC.s0 s f) (I:=λ(i:Int) r=>r = .go ()/\∃ k:Nat,i=k/\k<=s.length) (λi=>s.length-i.toNat) ?_ (s:=0) (r:=.go ()) ⟨rfl,0,rfl,YX _⟩
 ·rw [key];rfl
 ·rintro i r ⟨rfl,k,rfl,hk⟩;unfold ZC.s0
  by_cases hlt:k<s.length
  ·rw [Z0y (by omega),cond_true,at?_nat hlt,Y3,h _ (Y02 hlt)]
   refine .inl ⟨_,rfl,⟨rfl,k+1,by rw [Zt (by omega)];push_cast;rfl,hlt⟩,by rw [Zt (by omega)];omega⟩
  ·rw [Z0I (by omega),cond_false];exact .inr rfl
theorem Z2m {n:Nat} {M:Nat->Nat->Option Int} (h2:n<=24) (hB:BdM n M 1125899906842624):Z0Z (Mat n M)=some true:=by
 unfold Z0Z
 rw [Z0W,Z0y (by omega),cond_true,findR_none (by rw [Z0W];omega)]
 ·rfl
 ·intro row hrow;simp only [Mat,List.mem_map,Y00] at hrow;obtain ⟨i,hi,rfl⟩:=hrow;unfold Z4G;rw [Z1m,bne_f rfl,cond_false,findB_none (by rw [Z1m];omega)]
  ·rfl
  ·intro b hb;simp only [rowM,List.mem_map,Y00] at hb;obtain ⟨j,hj,rfl⟩:=hb;unfold Z2P;rw [may_bd (hB i j hi hj)];rfl
theorem Z4I {n:Nat} {M:Nat->Nat->Option Int} (h1:1<=n) (h2:n<=24):Z1R (Mat n M)=some (Mat n M):=by
 unfold Z1R
 have ne:∀ {α:Type} {l:List α},l.length=n->l.isEmpty=false:=by
  intro α l hl;cases l with
  | nil=>simp at hl;omega
  | cons a b=>rfl
 have hr:=room_eq
 rw [ne Z0W,Z0W,Z0y (by omega)]
 have:((Mat n M).all λq=>!q.isEmpty&&decide (q.length*16<=room))=true:=by
  rw [YB];intro q hq;simp only [Mat,List.mem_map,Y00] at hq;obtain ⟨i,hi,rfl⟩:=hq;rw [ne Z1m,Z1m,Z0y (by omega)];rfl
 rw [this];rfl
def setM (M:Nat->Nat->Option Int) (i j:Nat) (v:Option Int):Nat->Nat->Option Int:=updM M i j (omin v (M i j))
theorem Z45 {n i j:Nat} {M:Nat->Nat->Option Int} {v:Option Int} (h2:n<=24) (hB:BdM n M 1125899906842624) (hi:i<n) (hj:j<n) (hv:inB 1125899906842624 v):Z3Y (Mat n M) (i:Int) (j:Int) (bd v)=some (Mat n (setM M i j v),0):=by
 unfold Z3Y
 rw [Z2m h2 hB,Y3,Z0W,may_bd hv,Z0I (p:=(i:Int)<0) (by omega),Z0I (p:=(j:Int)<0) (by omega),Z0I (p:=(i:Int)>=_) (by omega),Z0I (p:=(j:Int)>=_) (by omega)]
 simp only [Bool.not_true,Bool.or_false,cond_false]
 rw [Z4I (by omega) h2,Y3,Z1B hi,Y3,Z12 hj,Y3,less_bd]
 unfold setM
 rw [Z3h]
 cases h:olt v (M i j) with
 | true=>
  simp only [cond_true,Y3,Z12 hj,if_true];rw [Mat_set']
 | false=>
  simp only [cond_false,Y3];have:(if false=true then v else M i j)=M i j:=by simp
  rw [this]
  congr 2
  refine Z1I λa b _ _=>?_;unfold updM
  split
  ·rename_i hh;rw [hh.1,hh.2]
  ·rfl
theorem setM_bd {n i j:Nat} {M:Nat->Nat->Option Int} {v:Option Int} {B:Int} (hB:BdM n M B) (hi:i<n) (hj:j<n) (hv:inB B v):BdM n (setM M i j v) B:=by
 intro a b ha hb
 unfold setM updM
 split
 ·exact inB_min hv (hB i j hi hj)
 ·exact hB a b ha hb
def goodSet (n:Nat) (x:epactlaw24_Set):Prop:=∃ (i j:Nat) (v:Option Int),i<n/\j<n/\inB 1000 v/\x=⟨i,j,bd v⟩
theorem built_loop {n:Nat} (h2:n<=24) {l:List epactlaw24_Set} (hl:(l.length:Int)<4611686018427387904) (hg:∀ x∈l,goodSet n x) {M:Nat->Nat->Option Int} (hB:BdM n M 1000):∃ A,ZQ (Zl.s0 l) (Mat n M,0,0)=some (Mat n A,0)/\BdM n A 1000:=by
 have key:=Z1s (step:=Zl.s0 l) (I:=λs=>∃ (k:Nat) (A:Nat->Nat->Option Int),s=(Mat n A,0,(k:Int))/\k<=l.length/\BdM n A 1000) (λs=>l.length-s.2.2.toNat) (λr=>∃ A,r=(Mat n A,0)/\BdM n A 1000) ?_ (Mat n M,0,0) ⟨0,M,rfl,YX _,hB⟩
 ·obtain ⟨r,e,A,rfl,hA⟩:=key;exact ⟨A,e,hA⟩
 ·rintro _ ⟨k,A,rfl,hk,hA⟩;unfold Zl.s0;simp only []
  by_cases hlt:k<l.length
  ·obtain ⟨i,j,v,hi,hj,hv,hx⟩:=hg _ (Y02 hlt);rw [Z0y (by omega),cond_true,at?_nat hlt,Y3,hx]
   simp only [beq_t,cond_true];rw [Z45 h2 (λa b ha hb=>Z2M (hA a b ha hb) (by omega)) hi hj (Z2M hv (by omega))]
   refine .inl ⟨_,rfl,⟨k+1,setM A i j v,?_,hlt,setM_bd hA hi hj hv⟩,?_⟩
   ·simp only [Y3];rw [Zt (by omega)];push_cast;rfl
   ·simp only [Y3];rw [Zt (by omega)];omega
  ·rw [Z0I (by omega),cond_false]
   exact .inr ⟨_,rfl,A,rfl,hA⟩
theorem and255 (x:Int):0<=iAnd .i64 x 255/\iAnd .i64 x 255<=255:=by
 have h2:(BitVec.ofInt 64 255).toNat=2 ^ 8-1:=by decide
 have h:(BitVec.ofInt 64 x &&& BitVec.ofInt 64 255).toNat<=255:=by
  rw [BitVec.toNat_and,h2,Nat.and_two_pow_sub_one_eq_mod];omega
 have e:iAnd .i64 x 255=((BitVec.ofInt 64 x &&& BitVec.ofInt 64 255).toNat:Int):=by
  show IntKind.i64.wrap _=_;rw [wrap_i64];have hb:(IntKind.i64.bits)=64:=rfl;rw [hb];omega
 rw [e]
 omega
theorem tmod_nat {x:Int} {n:Nat} (h:0<=x) (hn:1<=n):∃ i:Nat,i<n/\x.tmod (n:Int)=i:=by
 refine ⟨(x % n).toNat,?_,?_⟩
 ·have h1:=Int.emod_lt_of_pos x (show (0:Int)<n by omega)
  have h2:=Int.emod_nonneg x (show (n:Int)≠0 by omega)
  omega
 ·rw [Y01 h];have h2:=Int.emod_nonneg x (show (n:Int)≠0 by omega)
  omega
theorem tmod_bd (x:Int) : -1000<=x.tmod 1001/\x.tmod 1001<=1000:=by
 have h1:=Int.tmod_lt_of_pos x (show (0:Int)<1001 by omega)
 have h2:=Int.lt_tmod_of_pos x (show (0:Int)<1001 by omega)
 omega
theorem built_sets {n:Nat} (h1:1<=n) {x1:List epactlaw24_Set} (hl:x1.length<=60):∃ l,ZQ (ZU.s0 x1) ((n:Int),0,[])=some ((n:Int),l)/\l.length<=60/\∀ x∈l,goodSet n x:=by
 have hr:=room_eq
 have key:=Z1s (step:=ZU.s0 x1) (I:=λs=>∃ (k:Nat) (l:List epactlaw24_Set),s=((n:Int),(k:Int),l)/\k<=x1.length/\l.length<=k/\∀ x∈l,goodSet n x) (λs=>x1.length-s.2.1.toNat) (λr=>∃ l,r=((n:Int),l)/\l.length<=x1.length/\∀ x∈l,goodSet n x) ?_ ((n:Int),0,[]) ⟨0,[],rfl,YX _,Y8 _,λx hx=>by cases hx⟩
 ·obtain ⟨r,e,l,rfl,hA,hB⟩:=key;exact ⟨l,e,by omega,hB⟩
 ·rintro _ ⟨k,l,rfl,hk,hlk,hg⟩;unfold ZU.s0;simp only []
  by_cases hlt:k<x1.length
  ·rw [Z0y (by omega),cond_true,at?_nat hlt,Y3]
   generalize x1[k]=x;obtain ⟨i,hi,ei⟩:=tmod_nat (and255 x.I).1 h1;obtain ⟨j,hj,ej⟩:=tmod_nat (and255 x.J).1 h1;rw [nz?_ok (by omega),Y3,Y3,ei,ej]
   have hv:∃ v,inB 1000 v/\(bif (x.Most.Inf==0) then some (0,x.Most.N.tmod 1001) else some (1,0))=some ((bd v).Inf,(bd v).N):=by
    cases x.Most.Inf==0 with
    | true=>exact ⟨some (x.Most.N.tmod 1001),tmod_bd _,rfl⟩
    | false=>exact ⟨none,trivial,rfl⟩
   obtain ⟨v,hv,ev⟩:=hv;rw [ev,Y3];have hw:w64 ((k:Int)+1)=((k+1:Nat):Int):=by rw [Zt (by omega)];push_cast;rfl
   rw [hw]
   by_cases hij:(i:Int)=j
   ·rw [bne_f hij,cond_false];exact .inl ⟨_,rfl,⟨k+1,l,rfl,hlt,by omega,hg⟩,by simp only [YJ];omega⟩
   ·rw [bne_t hij,cond_true,app?_ok (by simp;omega)]
    refine .inl ⟨_,rfl,⟨k+1,_,rfl,hlt,by simp;omega,?_⟩,by simp only [YJ];omega⟩
    intro y hy;rcases List.mem_append.1 hy with hy|hy
    ·exact hg y hy
    ·rw [YF] at hy;exact ⟨i,j,v,hi,hj,hv,hy⟩
  ·rw [Z0I (by omega),cond_false]
   exact .inr ⟨_,rfl,l,rfl,by omega,hg⟩
theorem newM_bd (n:Nat):BdM n newM 1000:=by
 intro i j _ _
 unfold newM
 split
 ·exact ⟨by omega,by omega⟩
 ·trivial
theorem built_eq {m:Int} (hm:0<=m/\m<=255) (l:List epactlaw24_Set):∃ (n:Nat) (M:Nat->Nat->Option Int),ZU m l=some (Mat n M)/\(n:Int)=1+m % 24/\1<=n/\n<=24/\BdM n M 1000:=by
 have hn:∃ n:Nat,(n:Int)=1+m % 24:=⟨(1+m % 24).toNat,by omega⟩
 obtain ⟨n,hn⟩:=hn
 unfold ZU
 have hmin:iMin (l.length:Int) 60=((min l.length 60:Nat):Int):=by
  unfold iMin;split<;>omega
 have hcut:cut? l 0 (iMin (l.length:Int) 60)=some (l.take 60):=by
  unfold cut?;rw [hmin,if_pos ⟨by omega,by omega,by omega⟩]
  simp only [YJ,Int.toNat_zero,List.drop_zero]
  congr 1
  rcases Nat.le_total l.length 60 with h|h
  ·rw [Nat.min_eq_left h,List.take_length,Yi h]
  ·rw [Nat.min_eq_right h]
 rw [hcut,Y3,Y01 hm.1]
 have hw1:w64 (m % 24)=m % 24:=Zt (by omega)
 have hw2:w64 (1+m % 24)=(n:Int):=by rw [Zt (by omega),hn]
 rw [hw1,hw2]
 obtain ⟨l2,e2,h2,g2⟩:=built_sets (n:=n) (by omega) (x1:=l.take 60) (by simp;omega)
 rw [e2,Y3]
 unfold Zl
 rw [stp_New_eq (by omega) (by omega),Y3]
 obtain ⟨A,eA,bA⟩:=built_loop (n:=n) (by omega) (l:=l2) (by omega) g2 (newM_bd n)
 simp only []
 rw [eA]
 exact ⟨n,A,rfl,hn,by omega,by omega,bA⟩
end Go.Dn

namespace Go.Dn
open Go
abbrev MF:=Nat->Nat->Option Int
def leM (n:Nat) (A M:MF):Prop:=∀ i j,i<n->j<n->ole (A i j) (M i j)
def TriM (n k:Nat) (A:MF):Prop:=∀ m,m<k->∀ i j,i<n->j<n->ole (A i j) (oadd (A i m) (A m j))
def DiagM (n:Nat) (A:MF):Prop:=∀ i,i<n->A i i=some 0
def fw (M:MF) (k:Nat):MF:=λi j=>omin (oadd (M i k) (M k j)) (M i j)
theorem fw_row {M:MF} {k j:Nat} (h:M k k=some 0):fw M k k j=M k j:=by
 unfold fw;rw [h,zero_oadd];exact omin_self (Z0i _)
theorem fw_col {M:MF} {k i:Nat} (h:M k k=some 0):fw M k i k=M i k:=by
 unfold fw;rw [h,oadd_zero];exact omin_self (Z0i _)
theorem fw_le (M:MF) (k i j:Nat):ole (fw M k i j) (M i j):=omin_r _ _
theorem fw_tri {n k:Nat} {M:MF} (hk:k<n) (hd:M k k=some 0) (ht:TriM n k M):TriM n (k+1) (fw M k):=by
 intro m hm i j hi hj
 by_cases hmk:m=k
 ·subst hmk;rw [fw_row hd,fw_col hd];exact omin_l _ _
 ·have hm':m<k:=by omega
  have T:=ht m hm';have t1:fw M k i m=oadd (M i k) (M k m)\/fw M k i m=M i m:=omin_or _ _;have t2:fw M k m j=oadd (M m k) (M k j)\/fw M k m j=M m j:=omin_or _ _;have hz:ole (some 0) (oadd (M k m) (M m k)):=by have:=T k k hk hk;rwa [hd] at this
  rcases t1 with e1|e1<;>rcases t2 with e2|e2<;>rw [e1,e2]
  ·refine Z0m (omin_l _ _) ?_;rw [Z22,<- Z22 (M k m)];refine Z2d (Z0i _) ?_;have:=Z2d hz (Z0i (M k j))
   rwa [zero_oadd] at this
  ·refine Z0m (omin_l _ _) ?_;rw [Z22];exact Z2d (Z0i _) (T k j hk hj)
  ·refine Z0m (omin_l _ _) ?_;rw [<- Z22];exact Z2d (T i k hi hk) (Z0i _)
  ·exact Z0m (omin_r _ _) (T i j hi hj)
theorem fw_gr {n k:Nat} {M Y:MF} (hk:k<n) (hY:TriM n n Y) (h:leM n Y M):leM n Y (fw M k):=by
 intro i j hi hj
 exact ole_min (Z0m (hY k hk i j hi hj) (Z2d (h i k hi hk) (h k j hk hj))) (h i j hi hj)
theorem fw_bd {n k:Nat} {M:MF} {B:Int} (hk:k<n) (h0:0<=B) (h:BdM n M B):BdM n (fw M k) (2*B):=by
 intro i j hi hj
 exact inB_min (inB_add (h i k hi hk) (h k j hk hj)) (Z2M (h i j hi hj) (by omega))
def mid (M:MF) (k i j:Nat):MF:=λa b=>if a<i\/(a=i/\b<j) then fw M k a b else M a b
theorem mid_upd {M:MF} {k i j:Nat}:∀ a b,updM (mid M k i j) i j (fw M k i j) a b=mid M k i (j+1) a b:=by
 intro a b
 unfold updM mid
 by_cases h:a=i/\b=j
 ·rw [if_pos h,if_pos (by omega),h.1,h.2]
 ·rw [if_neg h]
  by_cases h2:a<i\/(a=i/\b<j)
  ·rw [if_pos h2,if_pos (by omega)]
  ·rw [if_neg h2,if_neg (by omega)]
variable {n:Nat} {d:List (List Bound)}
theorem close_s3 {M:MF} {k i:Nat} {B:Int} {s2 s3:Int×List (List Bound)} (hn:n<=24) (hdl:d.length=n) (h2:s2.1=(k:Int)) (h3:s3.1=(i:Int)) (hk:k<n) (hi:i<n) (hd:M k k=some 0) (hB:BdM n M B) (hB1:B<=2305843009213693952) :
  ZQ (ZB.s3 d s2 s3) (0,Mat n (mid M k i 0))=some (Mat n (mid M k (i+1) 0)):=by
 refine Z0O (I:=λs r=>r=Mat n (mid M k (i+1) 0)/\∃ j:Nat,s=((j:Int),Mat n (mid M k i j))/\j<=n) (λs=>n-s.1.toNat) ?_ ⟨rfl,0,rfl,YX _⟩
 rintro _ r ⟨rfl,j,rfl,hj⟩
 unfold ZB.s3
 simp only [h2,h3,hdl]
 by_cases hlt:j<n
 ·have e1:mid M k i j i k=M i k:=by
   unfold mid;split
   ·exact fw_col hd
   ·rfl
  have e2:mid M k i j k j=M k j:=by
   unfold mid;split
   ·exact fw_row hd
   ·rfl
  have e3:mid M k i j i j=M i j:=by unfold mid;rw [if_neg (by omega)]
  have hw:w64 ((j:Int)+1)=((j+1:Nat):Int):=by rw [Zt (by omega)];push_cast;rfl
  rw [Z0y (by omega),cond_true,Z1B hi,Y3,Z12 hk,Y3,Z1B hk,Y3,Z12 hlt,Y3,e1,e2,sum_bd hB1 (hB i k hi hk) (hB k j hk hlt)]
  simp only [beq_t,cond_true,Y3,Z1B hi,Z12 hlt,less_bd,e3,hw];refine .inl ?_;have hstep:∀ X,X=Mat n (mid M k i (j+1))->(∃ s',some (Sum.inl (((j+1:Nat):Int),X))=some (Sum.inl s':(Int×List (List Bound))⊕List (List Bound))/\(True/\∃ j:Nat,s'=((j:Int),Mat n (mid M k i j))/\j<=n)/\n-s'.1.toNat<n-((j:Int)).toNat):=by
   rintro X rfl;exact ⟨_,rfl,⟨trivial,j+1,rfl,hlt⟩,by simp only [YJ];omega⟩
  cases h:olt (oadd (M i k) (M k j)) (M i j) with
  | true=>
   simp only [cond_true,Y3];refine hstep _ ?_;rw [Mat_set'];refine Z1I λa b _ _=>?_;rw [<- mid_upd];have:oadd (M i k) (M k j)=fw M k i j:=by unfold fw;rw [Z3h,if_pos h]
   rw [this]
  | false=>
   simp only [cond_false,Y3];refine hstep _ ?_;refine Z1I λa b _ _=>?_;rw [<- mid_upd];unfold updM
   split
   ·rename_i hh;rw [hh.1,hh.2,e3];unfold fw;rw [Z3h,h];rfl
   ·rfl
 ·have:j=n:=by omega
  subst this;rw [Z0I (by omega),cond_false]
  refine .inr ?_
  congr 2
  refine Z1I λa b ha hb=>?_;unfold mid
  by_cases h:a<i+1
  ·rw [if_pos (by omega),if_pos (by omega)]
  ·rw [if_neg (by omega),if_neg (by omega)]
theorem close_s2 {M:MF} {k:Nat} {B:Int} {s2:Int×List (List Bound)} (hn:n<=24) (hdl:d.length=n) (h2:s2.1=(k:Int)) (hk:k<n) (hd:M k k=some 0) (hB:BdM n M B) (hB1:B<=2305843009213693952) :
  ZQ (ZB.s2 d s2) (0,Mat n M)=some (Mat n (fw M k)):=by
 have e0:Mat n M=Mat n (mid M k 0 0):=Z1I λa b _ _=>by unfold mid;rw [if_neg (by omega)]
 have e1:Mat n (fw M k)=Mat n (mid M k n 0):=Z1I λa b ha _=>by unfold mid;rw [if_pos (by omega)]
 rw [e0,e1]
 refine Z0O (I:=λs r=>r=Mat n (mid M k n 0)/\∃ i:Nat,s=((i:Int),Mat n (mid M k i 0))/\i<=n) (λs=>n-s.1.toNat) ?_ ⟨rfl,0,rfl,YX _⟩
 rintro _ r ⟨rfl,i,rfl,hi⟩
 unfold ZB.s2
 simp only [hdl]
 by_cases hlt:i<n
 ·rw [Z0y (by omega),cond_true,close_s3 hn hdl h2 rfl hk hlt hd hB hB1,Y3]
  have hw:w64 ((i:Int)+1)=((i+1:Nat):Int):=by rw [Zt (by omega)];push_cast;rfl
  rw [hw];exact .inl ⟨_,rfl,⟨trivial,i+1,rfl,hlt⟩,by simp only [YJ];omega⟩
 ·have:i=n:=by omega
  subst this;rw [Z0I (by omega),cond_false]
  exact .inr rfl
theorem close_s4 {M:MF} (hn:n<=24) (hdl:d.length=n) :
  (ZQ (ZB.s4 d (Mat n M)) 0=some (.go ())/\∀ i,i<n->olt (M i i) (some 0)=false)\/(ZQ (ZB.s4 d (Mat n M)) 0=some (.ret ())/\∃ i,i<n/\olt (M i i) (some 0)=true):=by
 have key:=all_loop (l:=List.range n) (step:=ZB.s4 d (Mat n M)) (good:=λk x=>olt (M x x) (some 0)=false) (yes:=.go ()) (no:=.ret ()) ?_ ?_
 ·rcases key with ⟨h1,h2⟩|⟨h1,h2⟩
  ·exact .inl ⟨h1,λi hi=>h2 i i (by simp [hi])⟩
  ·refine .inr ⟨h1,?_⟩;refine Classical.byContradiction λhc=>h2 λk x hx=>?_;have hx':x<n:=by have:=YC hx;simpa using this
   cases h:olt (M x x) (some 0) with
   | false=>rfl
   | true=>exact absurd ⟨x,hx',h⟩ hc
 ·intro k x hx _;obtain ⟨hk,rfl⟩ : k<n/\x=k:=by
   rw [List.getElem?_eq_some_iff] at hx;obtain ⟨h,e⟩:=hx;simp at h e;exact ⟨h,e.symm⟩
  unfold ZB.s4;rw [hdl,Z0y (by omega),cond_true,Z1B hk,Y3,Z12 hk,Y3,less_zero]
  cases h:olt (M x x) (some 0) with
  | true=>exact .inr ⟨rfl,by simp⟩
  | false=>
   rw [cond_false,Zt (by omega)]
   exact .inl ⟨rfl,rfl⟩
 ·unfold ZB.s4;rw [hdl,List.length_range,Z0I (by omega),cond_false]
theorem lt_neg {a:Option Int} (h:olt a (some 0)=true):¬ ole (some 0) a:=by
 cases a<;>simp [olt,ole] at *<;>omega
theorem lt_not {a:Option Int} (h:olt a (some 0)=false) (h2:ole a (some 0)):a=some 0:=by
 cases a<;>simp [olt,ole] at *<;>omega
structure InvC (n:Nat) (B:Int) (M:MF) (k:Nat) (C:MF):Prop where
 diag:DiagM n C
 tri:TriM n k C
 le:leM n C M
 gr:∀ Y,TriM n n Y->DiagM n Y->leM n Y M->leM n Y C
 bd:BdM n C (B*2 ^ k)
def NoSol (n:Nat) (M:MF):Prop:=∀ Y,TriM n n Y->DiagM n Y->¬ leM n Y M
theorem pow_le24 {k:Nat} (h:k<=24):(2:Int) ^ k<=16777216/\1<=(2:Int) ^ k:=by
 have h1:(2:Nat) ^ k<=2 ^ 24:=Nat.pow_le_pow_right (by omega) h
 have h2:1<=(2:Nat) ^ k:=Nat.one_le_two_pow
 have h3:((2 ^ k:Nat):Int)=(2:Int) ^ k:=by push_cast;rfl
 omega
end Go.Dn

namespace Go.Dn
open Go
def vec (n:Nat) (E:Nat->Int):List Int:=(List.range n).map E
def tm (E:Nat->Int):MF:=λi j=>some (E j-E i)
section
variable {n:Nat} {E:Nat->Int}
end
variable {n:Nat}
theorem square_eq {C:MF} (hn:n<=24):Z5 (Mat n C) (n:Int)=some true:=by
 unfold Z5
 have key:=Z0O (step:=Z5.s0 (Mat n C) (n:Int)) (I:=λ(i:Int) r=>r = .go ()/\∃ k:Nat,i=k/\k<=n) (λi=>n-i.toNat) ?_ (s:=0) (r:=.go ()) ⟨rfl,0,rfl,YX _⟩
 ·rw [key];simp only [Y3,Jx.elim,Z0W,beq_t]
 ·rintro i r ⟨rfl,k,rfl,hk⟩;unfold Z5.s0;rw [Z0W]
  by_cases hlt:k<n
  ·rw [Z0y (by omega),cond_true,Z1B hlt,Y3,Z1m,bne_f rfl,cond_false]
   exact .inl ⟨_,rfl,⟨rfl,k+1,by rw [Zt (by omega)];push_cast;rfl,hlt⟩,by rw [Zt (by omega)];omega⟩
  ·rw [Z0I (by omega),cond_false];exact .inr rfl
def Early (n:Nat) (C:MF) (E:Nat->Int) (i k:Nat):Prop:=(∀ j,j<k->ole (some (E i)) (C j i))/\(E i=0\/∃ j,j<n/\C j i=some (E i))
noncomputable def sameTail (x1:List (List Bound)) (x2:List (List Bound)×Bool×Int) (t:List Int):Option Bool :=
 (Ze x1 t).bind λx8=>
 (bif ((x2.2.2 != 0)||(!x2.2.1)) then
  some ((((x2.2.2==0)&&(!x8))&&((x2.1.length:Int)==0))&&ZN)
 else
  (Ze x2.1 t).bind λx10=>
  (bif (x10 != x8) then
   some false
  else
   (Z5 x2.1 (x1.length:Int)).bind λx11=>
   (bif (!x11) then
    some false
   else
    (new? 8 (x1.length:Int) 0).bind λx12=>
    (ZQ (ZE.s1 x1 x2) (0,x12)).bind λ(y2:(List Int))=>
    (Ze x1 y2).bind λx19=>
    (
     (bif x19 then
      (Ze x2.1 y2).bind λx20=>
      some x20
     else
      some false)).bind λ(y6:Bool)=>
    some (y6&&ZN))))
end Go.Dn

namespace Go.Dn
open Go
variable {n:Nat}
def lowered (C:MF) (i j:Nat) (w:Int):MF:=λa b=>omin (oadd (C a i) (oadd (some w) (C j b))) (C a b)
end Go.Dn

namespace Go.Dn
open Go
variable {n:Nat} {d:List (List Bound)}
theorem closeO_s3:Z7.s3=ZB.s3:=by
 funext d s2 s3 s4
 unfold Z7.s3 ZB.s3
 rfl
theorem closeO_s2:Z7.s2=ZB.s2:=by
 funext d s2 s3
 unfold Z7.s2 ZB.s2
 rw [closeO_s3]
theorem closeO_s4:Z7.s4=ZB.s4:=by
 funext d y4 s5
 unfold Z7.s4 ZB.s4
 rfl
theorem closeO_s0 {M:MF} {B:Int} (hB0:0<=B) (hn:n<=24) (hdl:d.length=n) (hB:BdM n M B) :
  (∃ C,ZQ (Z7.s0 d) (0,Mat n M)=some (.go (Mat n C))/\InvC n B M 0 C)\/((∃ X,ZQ (Z7.s0 d) (0,Mat n M)=some (.ret X))/\NoSol n M):=by
 have key:=Z1s (step:=Z7.s0 d) (I:=λs=>∃ (i:Nat) (C:MF),s=((i:Int),Mat n C)/\i<=n/\(∀ a,a<i->C a a=some 0)/\leM n C M/\(∀ Y,DiagM n Y->leM n Y M->leM n Y C)/\BdM n C B/\∀ a,i<=a->C a a=M a a) (λs=>n-s.1.toNat)
  (λr=>(∃ C,r = .go (Mat n C)/\InvC n B M 0 C)\/((∃ X,r = .ret X)/\NoSol n M)) ?_ (0,Mat n M) ⟨0,M,rfl,YX _,λa ha=>absurd ha (Nat.not_lt_zero _),λi j _ _=>Z0i _,λY _ h=>h,hB,λ_ _=>rfl⟩
 ·obtain ⟨r,e,⟨C,rfl,h⟩|⟨⟨X,rfl⟩,h⟩⟩:=key
  ·exact .inl ⟨C,e,h⟩
  ·exact .inr ⟨⟨X,e⟩,h⟩
 ·rintro _ ⟨i,C,rfl,hi,hdg,hle,hgr,hbd,hrest⟩;unfold Z7.s0;simp only [hdl]
  by_cases hlt:i<n
  ·rw [Z0y (by omega),cond_true]
   simp only [Z1B hlt,Z12 hlt,Y3,less_zero];cases h:olt (C i i) (some 0) with
   | true=>
    rw [cond_true];refine .inr ⟨_,rfl,.inr ⟨⟨_,rfl⟩,λY hY hD hYM=>lt_neg h ?_⟩⟩;have:=hgr Y hD hYM i i hlt hlt
    rwa [hD i hlt] at this
   | false=>
    rw [cond_false];refine .inl ⟨_,rfl,⟨i+1,updM C i i (some 0),?_,hlt,?_,?_,?_,?_,?_⟩,?_⟩
    ·rw [Zt (by omega)]
     congr 1
     exact Mat_set' (some 0)
    ·intro a ha;unfold updM
     split
     ·rfl
     ·exact hdg a (by omega)
    ·intro a b ha hb;unfold updM
     split
     ·rename_i hh;rw [hh.1,hh.2,<- hrest i (Y8 _)];cases hc:C i i with
      | none=>trivial
      | some v=>rw [hc] at h;simp [olt] at h;simpa [ole] using h
     ·exact hle a b ha hb
    ·intro Y hD hYM a b ha hb;unfold updM
     split
     ·rename_i hh;rw [hh.1,hh.2,hD i hlt];exact Z0i _
     ·exact hgr Y hD hYM a b ha hb
    ·intro a b ha hb;unfold updM
     split
     ·exact ⟨by omega,by omega⟩
     ·exact hbd a b ha hb
    ·intro a ha;unfold updM;rw [if_neg (by omega)]
     exact hrest a (by omega)
    ·simp only [];rw [Zt (by omega)];omega
  ·have:i=n:=by omega
   subst this;rw [Z0I (by omega),cond_false]
   exact .inr ⟨_,rfl,.inl ⟨C,rfl,hdg,λm hm=>absurd hm (Nat.not_lt_zero _),hle,λY _ hD=>hgr Y hD,by simpa using hbd⟩⟩
theorem closeO_s1 {M C0:MF} {B:Int} (hB0:0<=B) (hB1:∀ k,k<n->B*2 ^ k<=2305843009213693952) (hn:n<=24) (hdl:d.length=n) (h0:InvC n B M 0 C0) :
  (∃ C,ZQ (Z7.s1 d) (0,Mat n C0)=some (.go (Mat n C))/\InvC n B M n C)\/((∃ X,ZQ (Z7.s1 d) (0,Mat n C0)=some (.ret X))/\NoSol n M):=by
 have key:=Z1s (step:=Z7.s1 d) (I:=λs=>∃ (k:Nat) (C:MF),s=((k:Int),Mat n C)/\k<=n/\InvC n B M k C) (λs=>n-s.1.toNat)
  (λr=>(∃ C,r = .go (Mat n C)/\InvC n B M n C)\/((∃ X,r = .ret X)/\NoSol n M)) ?_ (0,Mat n C0) ⟨0,C0,rfl,YX _,h0⟩
 ·obtain ⟨r,e,⟨C,rfl,h⟩|⟨⟨X,rfl⟩,h⟩⟩:=key
  ·exact .inl ⟨C,e,h⟩
  ·exact .inr ⟨⟨X,e⟩,h⟩
 ·rintro _ ⟨k,C,rfl,hk,hI⟩;unfold Z7.s1;simp only [hdl]
  by_cases hlt:k<n
  ·have hp:=pow_le24 (k:=k) (by omega)
   have hpB:0<=B*2 ^ k/\B*2 ^ k<=2305843009213693952:=⟨Int.mul_nonneg hB0 (by omega),hB1 k hlt⟩
   rw [Z0y (by omega),cond_true,closeO_s2,close_s2 hn hdl rfl hlt (hI.diag k hlt) hI.bd hpB.2,Y3,closeO_s4]
   have hbd':BdM n (fw C k) (B*2 ^ (k+1)):=by
    have:=fw_bd hlt hpB.1 hI.bd;have e:B*2 ^ (k+1)=2*(B*2 ^ k):=by rw [Int.pow_succ,<- Yu,Int.mul_comm]
    rw [e];exact this
   have hgr':∀ Y,TriM n n Y->DiagM n Y->leM n Y M->leM n Y (fw C k):=λY hT hD hM=>fw_gr hlt hT (hI.gr Y hT hD hM);rcases close_s4 (d:=d) (M:=fw C k) hn hdl with ⟨e4,h4⟩|⟨e4,i,hi,h4⟩
   ·rw [e4];refine .inl ⟨_,rfl,⟨k+1,fw C k,?_,hlt,?_,fw_tri hlt (hI.diag k hlt) hI.tri,?_,hgr',hbd'⟩,?_⟩
    ·rw [Zt (by omega)];push_cast;rfl
    ·intro i hi;refine lt_not (h4 i hi) ?_;have:=fw_le C k i i
     rwa [hI.diag i hi] at this
    ·exact λa b ha hb=>Z0m (fw_le C k a b) (hI.le a b ha hb)
    ·simp only [];rw [Zt (by omega)];omega
   ·rw [e4];refine .inr ⟨_,rfl,.inr ⟨⟨_,rfl⟩,λY hT hD hM=>lt_neg h4 ?_⟩⟩;have:=hgr' Y hT hD hM i i hi hi
    rwa [hD i hi] at this
  ·have:k=n:=by omega
   subst this;rw [Z0I (by omega),cond_false]
   exact .inr ⟨_,rfl,.inl ⟨C,rfl,hI⟩⟩
theorem closeO_eq {M:MF} {B:Int} (hB0:0<=B) (hB2:B<=1125899906842624) (hB1:∀ k,k<n->B*2 ^ k<=2305843009213693952) (h1:1<=n) (hn:n<=24) (hB:BdM n M B) :
  (∃ C,Z7 (Mat n M)=some (Mat n C,true,0)/\InvC n B M n C)\/(Z7 (Mat n M)=some ([],false,0)/\NoSol n M):=by
 unfold Z7
 rw [Z2m hn (λa b ha hb=>Z2M (hB a b ha hb) hB2),Y3,Bool.not_true,cond_false,Z4I h1 hn,Y3]
 rcases closeO_s0 (d:=Mat n M) hB0 hn Z0W hB with ⟨C,e,h⟩|⟨⟨X,e⟩,h⟩
 ·rw [e];simp only [Y3,Jx.elim];rcases closeO_s1 (d:=Mat n M) hB0 hB1 hn Z0W h with ⟨C',e',h'⟩|⟨⟨X,e'⟩,h'⟩
  ·rw [e'];exact .inl ⟨C',rfl,h'⟩
  ·rw [e'];exact .inr ⟨rfl,h'⟩
 ·rw [e];exact .inr ⟨rfl,h⟩
theorem pigeon24:∀ (l:List Int) (c:Nat->Int),(∀ a b,c a=c b->a=b)->∃ k,k<=l.length/\c k∉l
 | [],c,_=>⟨0,Y8 _,by simp⟩
 | x::l,c,hc=>by
  by_cases h:∃ k0,c k0=x
  ·obtain ⟨k0,rfl⟩:=h;obtain ⟨k,h1,h2⟩:=pigeon24 l (λk=>if k<k0 then c k else c (k+1)) (λa b hab=>by
    split at hab<;>split at hab<;>have:=hc _ _ hab<;>omega)
   split at h2
   ·rename_i hk;refine ⟨k,by simp;omega,?_⟩
    rw [List.mem_cons];rintro (h|h)
    ·have:=hc _ _ h;omega
    ·exact h2 h
   ·rename_i hk;refine ⟨k+1,by simp;omega,?_⟩
    rw [List.mem_cons];rintro (h|h)
    ·have:=hc _ _ h;omega
    ·exact h2 h
  ·obtain ⟨k,h1,h2⟩:=pigeon24 l c hc;refine ⟨k,by simp;omega,?_⟩
   rw [List.mem_cons];rintro (h'|h')
   ·exact h ⟨k,h'⟩
   ·exact h2 h'
open Classical in
theorem inv_far {M C:MF} (hn:n<=24) (hB:BdM n M 1000) (h:InvC n 1000 M n C) {i j:Nat} (hi:i<n) (hj:j<n) {v:Int} (hv:C i j=some v):v<=25000:=by
 refine Classical.byContradiction λhc=>?_
 obtain ⟨k,hk,hnk⟩:=pigeon24 ((List.range n).map λj=>match C i j with|some d=>(d-1) / 1000|none=>-1) (λk=>(k:Int)) (λa b hab=>by omega)
 rw [Ys,List.length_range] at hk
 have key:∀ b e,b<n->C i b=some e->e<=1000*k\/e>1000*k+1000:=λb e hb he=>by
  refine Classical.byContradiction λhh=>hnk ?_;refine List.mem_map.2 ⟨b,by simpa using hb,?_⟩
  rw [he];show (e-1) / 1000=(k:Int);omega
 have hY:=h.gr (λa b=>if (∃ e,C i a=some e/\e<=1000*k)/\¬ (∃ e,C i b=some e/\e<=1000*k) then none else C a b) ?_ ?_ ?_ i j hi hj
 ·have hY:ole (if (∃ e,C i i=some e/\e<=1000*k)/\¬ (∃ e,C i j=some e/\e<=1000*k) then none else C i j) (C i j):=hY;have hp:(∃ e,C i i=some e/\e<=1000*(k:Int))/\¬ (∃ e,C i j=some e/\e<=1000*(k:Int)):=⟨⟨0,h.diag i hi,by omega⟩,λ⟨e,h1,h2⟩=>by rw [hv] at h1;cases h1;omega⟩
  rw [if_pos hp,hv] at hY;exact hY
 ·have up:∀ a b,ole (C a b) (if (∃ e,C i a=some e/\e<=1000*k)/\¬ (∃ e,C i b=some e/\e<=1000*k) then none else C a b):=λa b=>by
   split
   ·exact ole_none _
   ·exact Z0i _
  intro m hm a b ha hb
  by_cases hab:(∃ e,C i a=some e/\e<=1000*k)/\¬ (∃ e,C i b=some e/\e<=1000*k)
  ·have e0:∀ x:Option Int,oadd x none=none:=λx=>by cases x<;>rfl
   have e1:∀ x:Option Int,oadd none x=none:=λx=>by cases x<;>rfl
   by_cases hma:∃ e,C i m=some e/\e<=1000*k
   ·show ole _ (oadd _ (if (∃ e,C i m=some e/\e<=1000*k)/\¬ (∃ e,C i b=some e/\e<=1000*k) then none else C m b));rw [if_pos ⟨hma,hab.2⟩,e0];exact ole_none _
   ·show ole _ (oadd (if (∃ e,C i a=some e/\e<=1000*k)/\¬ (∃ e,C i m=some e/\e<=1000*k) then none else C a m) _);rw [if_pos ⟨hab.1,hma⟩,e1];exact ole_none _
  ·show ole (if (∃ e,C i a=some e/\e<=1000*k)/\¬ (∃ e,C i b=some e/\e<=1000*k) then none else C a b) _;rw [if_neg hab];exact Z0m (h.tri m hm a b ha hb) (Z2d (up a m) (up m b))
 ·intro a ha;show (if (∃ e,C i a=some e/\e<=1000*k)/\¬ (∃ e,C i a=some e/\e<=1000*k) then none else C a a)=some 0;rw [if_neg (λhh=>hh.2 hh.1)];exact h.diag a ha
 ·intro a b ha hb;show ole (if (∃ e,C i a=some e/\e<=1000*k)/\¬ (∃ e,C i b=some e/\e<=1000*k) then none else C a b) (M a b)
  by_cases hab:(∃ e,C i a=some e/\e<=1000*k)/\¬ (∃ e,C i b=some e/\e<=1000*k)
  ·rw [if_pos hab];obtain ⟨⟨x,hx,hxk⟩,hnb⟩:=hab
   cases hm:M a b with
   | none=>trivial
   | some m=>
    exfalso
    have hm1:=hB a b ha hb;rw [hm] at hm1;have hm2 : -1000<=m/\m<=1000:=hm1;have t1:=h.tri a ha i b hi hb;have t2:=h.le a b ha hb
    rw [hm] at t2;cases hcab:C a b with
    | none=>rw [hcab] at t2;exact t2
    | some y=>
     rw [hcab] at t2;have t2:y<=m:=t2
     rw [hx,hcab] at t1;cases hcib:C i b with
     | none=>rw [hcib] at t1;exact t1
     | some z=>
      rw [hcib] at t1;have t1:z<=x+y:=t1;rcases key b z hb hcib with q|q
      ·exact hnb ⟨z,hcib,q⟩
      ·omega
  ·rw [if_neg hab];exact h.le a b ha hb
theorem setO_of {d:List (List Bound)} {i j:Int} {m:Bound} {r:List (List Bound)} (h:Z3Y d i j m=some (r,0)):Z3Z d i j m=some (r,0):=by
 unfold Z3Y at h
 unfold Z3Z
 cases hr:Z0Z d with
 | none=>rw [hr] at h;cases h
 | some x=>
  rw [hr] at h;simp only [Y3] at h ⊢;cases hc:((((((!x)||(decide (i<0)))||(decide (j<0)))||(decide (i>=(d.length:Int))))||(decide (j>=(d.length:Int))))||(!(Z2A m))) with
  | true=>rw [hc,cond_true] at h;simp at h
  | false=>rw [hc] at h;exact h
theorem stpOwn_true (m:Int) (l:List epactlaw24_Set) (hm:okI .u8 m) (hl:okL 32 epactlaw24_Set.ok l):Z1X m l=some true:=by
 rw [okI_u8] at hm
 have hm2:IntKind.u8.wrap (1+m.tmod 23)=1+m % 23:=by
  rw [Y01 hm.1];have:∀ a:Int,IntKind.u8.wrap a=a % 256:=λa=>by simp [IntKind.wrap,IntKind.bits,IntKind.signed]
  rw [this];omega
 have hawake:ZN=true:=rfl
 unfold Z1X
 rw [hm2]
 obtain ⟨n,M,e,hn,h1,h2,hB⟩:=built_eq (m:=1+m % 23) (by omega) l
 have hn2:2<=n:=by omega
 have hBB:BdM n M 1125899906842624:=λa b ha hb=>Z2M (hB a b ha hb) (by omega)
 have h0n:0<n:=by omega
 have h1n:1<n:=by omega
 have a0:at? (Mat n M) (0:Int)=some (rowM n M 0):=Z1B (i:=0) h0n
 have r1:∀ (X:MF) (i:Nat),at? (rowM n X i) (1:Int)=some (bd (X i 1)):=λX i=>Z12 (j:=1) h1n
 have aX:∀ X:MF,at? (Mat n X) (0:Int)=some (rowM n X 0):=λX=>Z1B (i:=0) h0n
 have hset:Z3Z (Mat n M) 0 1 (Bound.mk 0 (-500))=some (Mat n (setM M 0 1 (some (-500))),0):=by
  exact setO_of (Z45 (n:=n) (M:=M) (i:=0) (j:=1) (v:=some (-500)) h2 hBB h0n h1n ⟨by omega,by omega⟩)
 have hpow:∀ k,k<n->(1000:Int)*2 ^ k<=2305843009213693952:=λk hk=>by
  have:=(pow_le24 (k:=k) (by omega)).1
  omega
 have hsq:∀ X:MF,Z5 (Mat n X) (n:Int)=some true:=λX=>square_eq h2
 have hsq0:Z5 [] (n:Int)=some false:=by
  unfold Z5;rw [loopO_eq];unfold Z5.s0;simp only [Ye];rw [Z0I (by omega),cond_false]
  simp only [Y3,Jx.elim];rw [beq_f (show ¬ ((0:Nat):Int)=(n:Int) by omega)]
 rw [e,Y3,Z0W,Z0I (by omega),cond_false,a0,Y3,r1,Y3,hset,Y3]
 have hsame:∀ b:Bound,((b.Inf==b.Inf)&&((b.N==b.N)&&true))=true:=λb=>by simp
 rcases closeO_eq (n:=n) (M:=M) (B:=1000) (by omega) (by omega) hpow h1 h2 hB with ⟨C,ec,h⟩|⟨ec,h⟩
 ·rw [ec];have hfar:(!(((bd (C 0 1)).Inf==0)&&(((bd (C 0 1)).N==77777)&&true)))=true:=by
   cases hc:C 0 1 with
   | none=>rfl
   | some v=>
    have:=inv_far h2 hB h h0n h1n hc;show (!((true)&&((v==77777)&&true)))=true;rw [beq_f (show ¬ v=77777 by omega)]
    rfl
  simp only [Y3,cond_true,hsq,aX,r1,Bool.not_true,cond_false,beq_self_eq_true,Yt,Bool.true_and,Bool.and_true]
  first
   | (rw [hawake];simp [hfar] at *;done)
   | skip
  have hfar2:=hfar;simp only [Bool.and_true] at hfar2;rw [hfar2]
  rfl
 ·rw [ec];simp only [Y3,cond_true,cond_false,hsq,hsq0,aX,r1,Bool.not_true,Bool.not_false,beq_self_eq_true,Yt,Bool.true_and,Bool.and_true]
  rfl
end Go.Dn
