/- Part 1 of what the row stands on. -/
import Derived.CheckFast
import Derived.RangeFuncRecord
import Derived.LoopNIn
import Derived.Below
import Derived.Test.YtefaoeaohhdhkaaM0
set_option linter.unusedVariables false
set_option linter.unusedSimpArgs false
namespace Go.Dn
open Go
theorem one_bits {look:Nat->Nat} {o:Oper} {j:Nat} (h:(CheckFast.one look o).testBit j=true) :
  ∃ e∈o.after,Region.binds .any e=true/\(e.on=j\/(look e.on).testBit j=true):=by
 have key:∀ (l:List Edge) (s:Nat),(l.foldl (λs e=>if Region.binds .any e then s ||| 2 ^ e.on ||| look e.on else s) s).testBit j=true ->
   s.testBit j=true\/∃ e∈l,Region.binds .any e=true/\(e.on=j\/(look e.on).testBit j=true):=by
  intro l
  induction l with
  | nil=>intro s h;exact .inl h
  | cons e l ih=>
   intro s h;rcases ih _ h with h|⟨e',h1,h2⟩
   ·simp only at h
    split at h
    ·rename_i hb;rw [Nat.testBit_or,Nat.testBit_or,Yj,Yj] at h;rcases h with (h|h)|h
     ·exact .inl h
     ·rw [Nat.testBit_two_pow] at h;exact .inr ⟨e,by simp,hb,.inl (by simpa using h)⟩
     ·exact .inr ⟨e,by simp,hb,.inr h⟩
    ·exact .inl h
   ·exact .inr ⟨e',by simp [h1],h2⟩
 unfold CheckFast.one at h
 rw [<- Y0U] at h
 rcases key _ _ h with h|⟨e,h1,h2⟩
 ·simp at h
 ·exact ⟨e,by simpa using h1,h2⟩
def befL (l:List Oper) (A:Array Nat):Array Nat:=l.foldl (λacc o=>acc.push (CheckFast.one (λi=>acc.getD i 0) o)) A
theorem befL_old:∀ (l:List Oper) (A:Array Nat) (k:Nat),k<A.size->(befL l A).getD k 0=A.getD k 0
 | [],_,_,_=>rfl
 | o::l,A,k,hk=>by
  have:=befL_old l (A.push (CheckFast.one (λi=>A.getD i 0) o)) k (by simp;omega)
  have h2:befL (o::l) A=befL l (A.push (CheckFast.one (λi=>A.getD i 0) o)):=rfl;rw [h2,this];simp [Y7,Array.getElem?_push,Nat.ne_of_lt hk]
theorem befL_bits {j:Nat}:∀ (l:List Oper) (A:Array Nat) (k:Nat) (o:Oper),l[k]? = some o->((befL l A).getD (A.size+k) 0).testBit j=true ->
  ∃ e∈o.after,Region.binds .any e=true/\(e.on=j\/((befL l A).getD e.on 0).testBit j=true)
 | [],_,_,_,h,_=>by simp at h
 | o::l,A,0,o',h,hb=>by
  simp at h;subst h;have h2:befL (o::l) A=befL l (A.push (CheckFast.one (λi=>A.getD i 0) o)):=rfl;rw [h2,Nat.add_zero,befL_old _ _ _ (by simp)] at hb
  have h3:(A.push (CheckFast.one (λi=>A.getD i 0) o)).getD A.size 0=CheckFast.one (λi=>A.getD i 0) o:=by simp [Y7]
  rw [h3] at hb;obtain ⟨e,h4,h5,h6⟩:=one_bits hb;refine ⟨e,h4,h5,h6.imp id λh6=>?_⟩;have hlt:e.on<A.size:=by
   rcases YF e.on A.size with h|h
   ·exact h
   ·simp [Y7,Yr h] at h6
  rw [befL_old _ _ _ hlt];exact h6
 | o::l,A,k+1,o',h,hb=>by
  have h2:befL (o::l) A=befL l (A.push (CheckFast.one (λi=>A.getD i 0) o)):=rfl;rw [h2] at hb ⊢;refine befL_bits l _ k o' (by simpa using h) ?_
  have:(A.push (CheckFast.one (λi=>A.getD i 0) o)).size+k=A.size+(k+1):=by simp;omega
  rw [this];exact hb
theorem before_eq (ops:Array Oper):Region.before ops=befL ops.toList #[]:=by
 unfold Region.before befL
 rw [<- Y0U]
 rfl
theorem Z5y {ops:Array Oper} {i j:Nat} {o:Oper} (ho:ops[i]? = some o) (h:((Region.before ops).getD i 0).testBit j=true) :
  ∃ e∈o.after,Region.binds .any e=true/\(e.on=j\/((Region.before ops).getD e.on 0).testBit j=true):=by
 rw [before_eq] at h ⊢
 exact befL_bits ops.toList #[] i o (by simpa using ho) (by simpa using h)
section
variable {X:Ctx} {n:Nat} {ops:Array Oper}
theorem Z3i (h:Z1j ops=true):Region.lexB .any ops=true /\
  (∀ i o,ops[i]? = some o->isW o.op=true->Z2A (Region.before ops) ops i=false) /\
  ∀ i o,ops[i]? = some o->∀ e∈o.after,Region.binds .any e=true->e.on<i:=by
 unfold Z1j at h
 simp only [Y8,YC,List.mem_range] at h
 obtain ⟨⟨h1,h2⟩,h3⟩:=h
 refine ⟨h1,λi o ho hw=>?_,λi o ho e he hb=>?_⟩
 ·have:=h3 i (Array.getElem?_eq_some_iff.1 ho).1;rw [ho] at this;simp only [hw,if_true,Y8,YQ] at this;exact this.1
 ·have:=h3 i (Array.getElem?_eq_some_iff.1 ho).1;rw [ho] at this;simp only [Y8] at this;have:=Array.all_eq_true_iff_forall_mem.1 this.2 e he
  simpa [hb] using this
theorem bits_lt (ha:∀ i o,ops[i]? = some o->∀ e∈o.after,Region.binds .any e=true->e.on<i) {j:Nat}:∀ (i:Nat),((Region.before ops).getD i 0).testBit j=true->j<i:=by
 intro i
 induction i using Nat.strongRecOn with
 | _ i ih=>
  intro h;cases ho:ops[i]? with
  | none=>
   exfalso
   have hsz:(Region.before ops).size=ops.size:=by
    rw [before_eq];have key:∀ (l:List Oper) (A:Array Nat),(befL l A).size=A.size+l.length:=by
     intro l
     induction l with
     | nil=>intro A;rfl
     | cons o l ih=>
      intro A;have h2:befL (o::l) A=befL l (A.push (CheckFast.one (λi=>A.getD i 0) o)):=rfl;rw [h2,ih]
      simp
      omega
    rw [key]
    simp
   have:(Region.before ops)[i]? = none:=Yr (by rw [hsz];exact Array.getElem?_eq_none_iff.1 ho)
   simp [Y7,this] at h
  | some o=>
   obtain ⟨e,he,hb,h1⟩:=Z5y ho h;have hlt:=ha i o ho e he hb;rcases h1 with h1|h1
   ·omega
   ·have:=ih e.on hlt h1;omega
theorem lex_free:∀ (fuel k:Nat) (L:Array Bool),Region.lexFrom .any ops fuel k L=true->∀ j,k<=j->j<k+fuel ->
  ∃ L':Array Bool,(∀ m,j<=m->L'.getD m true=L.getD m true)/\Region.free .any ops L' j=true
 | 0,k,L,_,j,h1,h2=>by omega
 | fuel+1,k,L,h,j,h1,h2=>by
  simp only [Region.lexFrom,Y8] at h;rcases Nat.eq_or_lt_of_le h1 with rfl|hlt
  ·exact ⟨L,λ_ _=>rfl,h.1.2⟩
  ·obtain ⟨L',h3,h4⟩:=lex_free fuel (k+1) _ h.2 j hlt (by omega)
   exact ⟨L',λm hm=>by rw [h3 m hm,getD_set_ne true (by omega)],h4⟩
theorem apart_of (h:Region.lexB .any ops=true) {i j:Nat} {oi oj:Oper} (hi:ops[i]? = some oi) (hj:ops[j]? = some oj) (hlt:j<i) (hno:∀ e∈oi.after,Region.binds .any e=true->e.on≠j):oj.apart ops oi=true:=by
 simp only [Region.lexB,Y8] at h
 have hjs:=(Array.getElem?_eq_some_iff.1 hj).1
 have his:=(Array.getElem?_eq_some_iff.1 hi).1
 obtain ⟨L',h1,h2⟩:=lex_free _ _ _ h.2 j (YW _) (by omega)
 refine Region.free_spec hj h2 i oi hi (by omega) ?_ hno
 rw [h1 i (by omega)]
 simp [Y7,his]
theorem Z1k {o:Oper} {e e':Env} (h:∀ t∈o.looksAt ops,e t=e' t):sees e e' o.op.operands.toList:=λt ht=>h t (by
 unfold Oper.looksAt
 rw [Yb]
 exact .inl (List.mem_filterMap.2 ⟨.tmp t,ht,rfl⟩))
theorem Zq {o:Oper} {e e':Env} (h:∀ t∈o.looksAt ops,e t=e' t):ZP ops e o=ZP ops e' o:=by
 unfold ZP
 cases hg:o.guard with
 | none=>rfl
 | some g=>
  obtain ⟨g,want⟩:=g
  simp only;cases hd:(ops[g]?).bind (·.dst) with
  | none=>rfl
  | some d=>
   simp only;rw [h d (by unfold Oper.looksAt;rw [Yb,hg];simp [hd])]
def Z4t (X:Ctx) (e:Env) (op:Op) (k:Nat):Prop:=(isRW op=true/\k∈touched X e op)\/k∈frozen X e op
theorem Z0o {call:ZR} (hcp:CallPure X call) {base i:Nat} {o:Oper} {e e':Env} {G G':Heap} (hna:Z1m (Region.before ops) ops i=false) (hns:¬(ZP ops e o=some true/\ZK X ops base i o e=false)) (h:Zk X call n ops base i o e G=some (e',G')) :
  ∃ x δ,e'=putD n e o.dst x/\G'=appl G δ/\(ZP ops e o=some true->ZO X ops base i o e=true) /\
   (∀ k en,(k,en)∈δ->ZP ops e o=some true/\(k=base+i\/(isW o.op=true/\k∈touched X e o.op)\/k∈frozen X e o.op)) /\
   ∀ e2 G2,Stable ops e e2->(∀ t∈o.looksAt ops,e t=e2 t)->(ZP ops e o=some true->∀ k,Z4t X e o.op k->G2.ent k=G.ent k) ->
    Zk X call n ops base i o e2 G2=some (putD n e2 o.dst x,appl G2 δ):=by
 unfold Zk at h
 rw [if_neg hns] at h
 unfold Zv at h
 split at h
 ·rename_i hw;have hask:ZK X ops base i o e=true:=by
   cases hd:ZK X ops base i o e with
   | true=>rfl
   | false=>exact absurd ⟨hw,hd⟩ hns
  have hask0:ZO X ops base i o e=true:=by
   unfold ZK at hask;rw [hna,Bool.false_or] at hask;exact hask
  simp only [Y2,Y5,Y4] at h;obtain ⟨⟨x,G1⟩,h1,rfl,rfl⟩:=h;obtain ⟨δ,rfl,hk,hl⟩:=stepOp_local hcp hask0 h1;refine ⟨x,δ,rfl,rfl,λ_=>hask0,λk en hkk=>⟨hw,hk k en hkk⟩,λe2 G2 hst he hG=>?_⟩;have hs:=Z1k (ops:=ops) he;unfold Zk;rw [<- Zq he,<- Z0p hst hs,if_neg (by rw [hask];simp)]
  unfold Zv;rw [<- Zq he,hw];simp only;rw [<- Z0n hs,hl G2 (λhr k hk=>hG hw k (.inl ⟨hr,hk⟩)) (λk hk=>hG hw k (.inr hk))]
  rfl
 ·rename_i hw;cases h;refine ⟨.undef,[],rfl,rfl,λh=>(by rw [hw] at h;cases h),by simp,λe2 G2 _ he _=>?_⟩
  unfold Zk;rw [<- Zq he,if_neg (by rw [hw];simp)]
  unfold Zv;rw [<- Zq he,hw]
  rfl
 ·cases h
theorem isW_isRW {op:Op} (h:isW op=true):isRW op=true:=by
 unfold isW at h
 unfold isRW
 split at h<;>simp_all
theorem Z1n {op:Op} (h:isRW op=true):Zh op = .read\/Zh op = .write:=by
 unfold isRW at h
 split at h<;>simp_all
theorem Z3p {op:Op}:isW op=true↔Zh op = .write:=by
 unfold isW
 split<;>simp_all
theorem Z4Y {i j:Nat} {o:Oper} (hi:ops[i]? = some o) (hu:unord (Region.before ops) i j=true) (hp:isW o.op=true):Z2A (Region.before ops) ops j=true:=by
 unfold Z2A
 rw [List.any_eq_true]
 refine ⟨i,List.mem_range.2 (Array.getElem?_eq_some_iff.1 hi).1,?_⟩
 rw [hi]
 simp [hu,hp]
theorem freshAt_of {i j:Nat} {o:Oper} {e:Env} {k:Nat} (hj:ops[j]? = some o) (hu:unord (Region.before ops) i j=true) (hp:isRW o.op=true) (h:Z17 X e (Region.before ops) ops i k=false):rootOp ops o.op=true/\k∉Z0y X ops e o.op:=by
 unfold Z17 at h
 rw [List.any_eq_false] at h
 have:=h j (List.mem_range.2 (Array.getElem?_eq_some_iff.1 hj).1)
 rw [hj] at this
 simpa [hu,hp] using this
theorem Z0K {bef:Array Nat} {i j:Nat} (h:unord bef i j=true):unord bef j i=true:=by
 unfold unord at h ⊢
 rw [Nat.max_comm,Nat.min_comm,bne_comm]
 exact h
theorem ask_read {base i:Nat} {o:Oper} {e:Env} (h:ZO X ops base i o e=true) (hr:Zh o.op = .read) {k:Nat} (hk:k∈touched X e o.op) :
  k<base\/(Z2A (Region.before ops) ops i=false/\((Region.before ops).getD i 0).testBit (k-base)=true):=by
 unfold ZO at h
 rw [hr] at h
 simp only [Y8,YC] at h
 have:=h.1 k hk
 simp only [Yj,decide_eq_true_eq,Y8,YQ] at this
 exact this.imp id λh=>h.1
theorem ask_root {base i:Nat} {o:Oper} {e:Env} (hi:ops[i]? = some o) (h:ZO X ops base i o e=true) (hr:Zh o.op = .read) (ho:Z2A (Region.before ops) ops i=true) (hro:rootOp ops o.op=true) {k:Nat} (hk:k∈touched X e o.op) :
  k∈Z0y X ops e o.op:=by
 unfold ZO at h
 rw [hr] at h
 simp only [Y8,Yj,YQ,hro,YC,List.contains_iff_mem,Bool.true_eq_false,or_false] at h
 rcases h.2 with h|h
 ·unfold Z2p at h;rw [hi] at h;simp only [ho,hro,Y0K,Bool.false_or,Bool.or_false] at h;rw [Z6G h];exact hk
 ·exact h k hk
theorem Z5g {base i:Nat} {o:Oper} {e:Env} (h:ZO X ops base i o e=true) (hr:Zh o.op = .write) {k:Nat} (hk:k∈touched X e o.op) :
  (k<base/\Z17 X e (Region.before ops) ops i k=false)\/(base<=k/\((Region.before ops).getD i 0).testBit (k-base)=true):=by
 unfold ZO at h
 rw [hr] at h
 simp only [YC] at h
 have:=h k hk
 simp only [Yj,decide_eq_true_eq,Y8,YQ] at this
 exact this.imp id λh=>h.1
theorem key_read (hd:Z1j ops=true) {base i j:Nat} {oi oj:Oper} {ei ej:Env} (hst:Stable ops ej ei) (hi:ops[i]? = some oi) (hj:ops[j]? = some oj) (hu:unord (Region.before ops) i j=true)
  (hb:((Region.before ops).getD i 0).testBit j=false) (hai:ZO X ops base i oi ei=true) (haj:ZO X ops base j oj ej=true) {k:Nat}
  (hk:k=base+j\/(isW oj.op=true/\k∈touched X ej oj.op)) (hri:isRW oi.op=true) (hki:k∈touched X ei oi.op):False:=by
 obtain ⟨_,hww,_⟩:=Z3i hd
 rcases hk with rfl|⟨hw,hk⟩
 ·rcases Z1n hri with h|h
  ·rcases ask_read hai h hki with h|⟨_,h⟩
   ·omega
   ·rw [Yo,hb] at h;cases h
  ·rcases Z5g hai h hki with ⟨h,_⟩|⟨_,h⟩
   ·omega
   ·rw [Yo,hb] at h;cases h
 ·rcases Z5g haj (Z3p.1 hw) hk with ⟨_,h⟩|⟨hge,_⟩
  ·obtain ⟨h1,h2⟩:=freshAt_of hi (Z0K hu) hri h;rw [Z42 hst] at h2;have hold:=Z4Y hj (Z0K hu) hw;rcases Z1n hri with h|h
   ·exact h2 (ask_root hi hai h hold h1 hki)
   ·have:=hww i oi hi (Z3p.2 h);rw [hold] at this;cases this
  ·rcases Z1n hri with h|h
   ·rcases ask_read hai h hki with h|⟨h,_⟩
    ·omega
    ·rw [Z4Y hj (Z0K hu) hw] at h;cases h
   ·have:=hww i oi hi (Z3p.2 h);rw [Z4Y hj (Z0K hu) hw] at this;cases this
theorem Z4j {base i:Nat} {o:Oper} {e:Env} (h:ZO X ops base i o e=true) {k:Nat} (hk:k∈frozen X e o.op) :
  base<=k/\((Region.before ops).getD i 0).testBit (k-base)=true/\∀ j,j<ops.size->unord (Region.before ops) i j=true->((Region.before ops).getD j 0).testBit (k-base)=false:=by
 cases hop:o.op with
 | buildSlice t len parts=>
  unfold ZO at h;simp only [hop,Zh,YC] at h;rw [hop] at hk;have:=h k hk;simp only [Y8,decide_eq_true_eq,YC,List.mem_range,YQ,Bool.and_eq_false_iff] at this;obtain ⟨⟨⟨h1,h2⟩,h3⟩,h4⟩:=this;refine ⟨h1,h3,λj hj hu=>?_⟩;rcases h4 j hj with h|h
  ·rw [hu] at h;cases h
  ·exact h
 | _=>rw [hop] at hk;simp [frozen] at hk
theorem ask_rw {base i:Nat} {o:Oper} {e:Env} (h:ZO X ops base i o e=true) (hr:isRW o.op=true) {k:Nat} (hk:k∈touched X e o.op):k<base\/((Region.before ops).getD i 0).testBit (k-base)=true:=by
 rcases Z1n hr with h'|h'
 ·exact (ask_read h h' hk).imp id λh=>h.2
 ·exact (Z5g h h' hk).imp (λh=>h.1) λh=>h.2
theorem key_look (hd:Z1j ops=true) {base i j:Nat} {oi oj:Oper} {ei ej:Env} (hst:Stable ops ej ei) (hi:ops[i]? = some oi) (hj:ops[j]? = some oj) (hu:unord (Region.before ops) i j=true)
  (hb:((Region.before ops).getD i 0).testBit j=false) (hai:ZO X ops base i oi ei=true) (haj:ZO X ops base j oj ej=true) {k:Nat}
  (hk:k=base+j\/(isW oj.op=true/\k∈touched X ej oj.op)\/k∈frozen X ej oj.op) (hl:Z4t X ei oi.op k):False:=by
 have hil:=(Array.getElem?_eq_some_iff.1 hi).1
 have hjl:=(Array.getElem?_eq_some_iff.1 hj).1
 rcases hl with ⟨hr,ht⟩|hf
 ·rcases hk with hk|hk|hk
  ·exact key_read hd hst hi hj hu hb hai haj (.inl hk) hr ht
  ·exact key_read hd hst hi hj hu hb hai haj (.inr hk) hr ht
  ·obtain ⟨h1,h2,h3⟩:=Z4j haj hk;rcases ask_rw hai hr ht with h|h
   ·omega
   ·rw [h3 i hil (Z0K hu)] at h;cases h
 ·obtain ⟨h1,h2,h3⟩:=Z4j hai hf;rcases hk with rfl|⟨hw,hk⟩|hk
  ·rw [Yo,hb] at h2;cases h2
  ·rcases ask_rw haj (isW_isRW hw) hk with h|h
   ·omega
   ·rw [h3 j hjl hu] at h;cases h
  ·obtain ⟨_,h4,h5⟩:=Z4j haj hk;rw [h5 i hil (Z0K hu)] at h2;cases h2
theorem Z6m {i j:Nat} (hj:j<ops.size) (hu:unord (Region.before ops) i j=true):Z1m (Region.before ops) ops i=false:=by
 cases h:Z1m (Region.before ops) ops i with
 | false=>rfl
 | true=>
  unfold Z1m at h;rw [YC] at h;have:=h j (List.mem_range.2 hj);rw [hu] at this;cases this
theorem Zj {e:Env} {dst:Option Tmp} {x:PV} {t:Nat} (h:dst≠some t):putD n e dst x t=e t:=by
 unfold putD
 cases dst with
 | none=>rfl
 | some d=>
  simp only
  split
  ·simp only [upd];rw [if_neg (λhh=>h (by rw [hh]))]
  ·rfl
theorem upd_comm {α:Type} (f:Nat->α) {i j:Nat} (x y:α) (h:i≠j):upd (upd f i x) j y=upd (upd f j y) i x:=by
 funext k
 simp only [upd]
 by_cases h1:k=j
 ·subst h1;rw [if_pos rfl,if_neg (λhh=>h hh.symm),if_pos rfl]
 ·rw [if_neg h1]
  by_cases h2:k=i
  ·rw [if_pos h2,if_pos h2]
  ·rw [if_neg h2,if_neg h2,if_neg h1]
theorem Z1g {e:Env} {d d':Option Tmp} {x y:PV} (h:∀ t,d=some t->d'≠some t):putD n (putD n e d x) d' y=putD n (putD n e d' y) d x:=by
 cases d with
 | none=>rfl
 | some t=>
  cases d' with
  | none=>rfl
  | some t'=>
   have hne:t≠t':=λhh=>h t rfl (by rw [hh])
   simp only [putD]
   by_cases h1:t<n
   ·by_cases h2:t'<n
    ·simp only [if_pos h1,if_pos h2];exact upd_comm _ _ _ hne
    ·simp only [if_pos h1,if_neg h2]
   ·by_cases h2:t'<n
    ·simp only [if_neg h1,if_pos h2]
    ·simp only [if_neg h1,if_neg h2]
theorem Z4v:∀ {δ:List (Nat×Ent)} {G:Heap} {k:Nat},(∀ k' en,(k',en)∈δ->k'≠k)->(appl G δ).ent k=G.ent k
 | [],_,_,_=>rfl
 | (j,en)::δ,G,k,h=>by
  show (appl (G.put j en) δ).ent k=G.ent k;rw [Z4v λk' en' hm=>h k' en' (YH _ hm)];simp only [Heap.put,upd];rw [if_neg λhh=>h j en YN hh.symm]
theorem put_comm {G:Heap} {j k:Nat} {en en':Ent} (h:j≠k):(G.put j en).put k en'=(G.put k en').put j en:=by
 simp only [Heap.put]
 rw [upd_comm _ _ _ h]
theorem appl_put:∀ {δ:List (Nat×Ent)} {G:Heap} {j:Nat} {en:Ent},(∀ k en',(k,en')∈δ->k≠j)->appl (G.put j en) δ=(appl G δ).put j en
 | [],_,_,_,_=>rfl
 | (k,en')::δ,G,j,en,h=>by
  show appl ((G.put j en).put k en') δ=(appl (G.put k en') δ).put j en;rw [put_comm λhh=>h k en' YN hh.symm,appl_put λk' en' hm=>h k' en' (YH _ hm)]
theorem appl_comm:∀ {δ δ':List (Nat×Ent)} {G:Heap},(∀ k en k' en',(k,en)∈δ->(k',en')∈δ'->k≠k')->appl (appl G δ) δ'=appl (appl G δ') δ
 | [],_,_,_=>rfl
 | (j,en)::δ,δ',G,h=>by
  show appl (appl (G.put j en) δ) δ'=appl ((appl G δ').put j en) δ;rw [appl_comm λk en k' en' h1 h2=>h k en k' en' (YH _ h1) h2,appl_put λk en' hm hh=>h j en k en' YN hm hh.symm]
theorem quiet_ask {call:ZR} {base i:Nat} {o:Oper} {e e':Env} {G G':Heap} (hq:quiet o.op=true) (h:Zk X call n ops base i o e G=some (e',G')):¬(ZP ops e o=some true/\ZK X ops base i o e=false):=by
 intro c
 unfold Zk at h
 rw [if_pos c] at h
 split at h
 ·rename_i hs;exact (Z4E hq).2 hs.1
 ·cases h
theorem Z6e {call:ZR} {base i:Nat} {o:Oper} {e e':Env} {G G':Heap} (hq:quiet o.op=true) (h:Zk X call n ops base i o e G=some (e',G')):G'=G:=by
 have hns:=quiet_ask hq h
 unfold Zk at h
 rw [if_neg hns] at h
 unfold Zv at h
 split at h
 ·simp only [Y2,Y5,Y4] at h;obtain ⟨⟨x,G1⟩,h1,_,rfl⟩:=h;exact Z6p hq h1
 ·cases h;rfl
 ·cases h
theorem ask_lt {base i:Nat} {o:Oper} {e:Env} (h:ZO X ops base i o e=true) (hr:Zh o.op = .read) {k:Nat} (hk:k∈touched X e o.op):k<base+ops.size:=by
 unfold ZO at h
 rw [hr] at h
 simp only [Y8,YC] at h
 have:=h.1 k hk
 simp only [Yj,decide_eq_true_eq,Y8,YQ] at this
 rcases this with h|h
 ·omega
 ·exact h.2
theorem Z6O {call:ZR} {base i:Nat} {o:Oper} {e e2 e':Env} {G G2 G':Heap} (hq:quiet o.op=true) (hna:Z1m (Region.before ops) ops i=false) (h:Zk X call n ops base i o e G=some (e',G'))
  (hst:Stable ops e e2) (he:∀ t∈o.looksAt ops,e t=e2 t) (hG:∀ k,k<base+ops.size->Alike (G.ent k) (G2.ent k)):G'=G/\∃ x,e'=putD n e o.dst x/\Zk X call n ops base i o e2 G2=some (putD n e2 o.dst x,G2):=by
 refine ⟨Z6e hq h,?_⟩
 have hns:=quiet_ask hq h
 have hse:=Z1k (ops:=ops) he
 unfold Zk at h
 rw [if_neg hns] at h
 unfold Zv at h
 split at h
 ·rename_i hw;have hask:ZK X ops base i o e=true:=by
   cases hd:ZK X ops base i o e with
   | true=>rfl
   | false=>exact absurd ⟨hw,hd⟩ hns
  have hask0:ZO X ops base i o e=true:=by
   have h1:=hask;unfold ZK at h1;rw [hna,Bool.false_or] at h1;exact h1
  simp only [Y2,Y5,Y4] at h;obtain ⟨⟨x,G1⟩,h1,rfl,rfl⟩:=h;have hs1:=Z6p hq h1;subst hs1;refine ⟨x,rfl,?_⟩;have h2:=quiet_alike (G2:=G2) hq h1 (λhrw k hk=>hG k (by
   rcases Z1n hrw with h1|h1
   ·exact ask_lt hask0 h1 hk
   ·have:=(Z4E hq).1;rw [Z3p.2 h1] at this;cases this))
  unfold Zk;rw [<- Zq he,<- Z0p hst hse,if_neg (by rw [hask];simp)]
  unfold Zv;rw [<- Zq he,hw];simp only;rw [<- Z0n hse,h2]
  rfl
 ·rename_i hw;cases h;refine ⟨.undef,rfl,?_⟩;unfold Zk;rw [<- Zq he,if_neg (by rw [hw];simp)]
  unfold Zv;rw [<- Zq he,hw]
 ·cases h
theorem Z6b {call:ZR} {base i:Nat} {o:Oper} {e e':Env} {G G':Heap} (c:ZP ops e o=some true/\ZK X ops base i o e=false) (h:Zk X call n ops base i o e G=some (e',G')) :
  Z1o X call ops base i o e G/\∃ x,e'=putD n e o.dst x/\Z2 X call e G (base+i) o.op=some (x,G')/\∀ e2,Stable ops e e2->(∀ t∈o.looksAt ops,e t=e2 t)->Zk X call n ops base i o e2 G=some (putD n e2 o.dst x,G'):=by
 unfold Zk at h
 rw [if_pos c] at h
 split at h
 ·rename_i hs;unfold Zv at h;rw [c.1] at h;simp only [Y2,Y5,Y4] at h;obtain ⟨⟨x,G1⟩,h1,rfl,rfl⟩:=h;refine ⟨hs,x,rfl,h1,λe2 hst he=>?_⟩;have hse:=Z1k (ops:=ops) he;unfold Zk;rw [<- Zq he,<- Z0p hst hse,if_pos c,if_pos ((still_env hse).1 hs)];unfold Zv;rw [<- Zq he,c.1];simp only;rw [<- Z0n hse,h1]
  rfl
 ·cases h
theorem Z64 {i j:Nat} {oj:Oper} (h:Z4Z ops i=true) (hj:ops[j]? = some oj) (hu:unord (Region.before ops) i j=true):quiet oj.op=true:=by
 unfold Z4Z at h
 rw [YC] at h
 have:=h j (List.mem_range.2 (Array.getElem?_eq_some_iff.1 hj).1)
 rw [hj,hu] at this
 simpa using this
theorem Z3M {i j:Nat} {oj:Oper} (h:Z2y ops i=true) (hj:ops[j]? = some oj) (hu:unord (Region.before ops) i j=true):mild oj.op=true:=by
 unfold Z2y at h
 rw [YC] at h
 have:=h j (List.mem_range.2 (Array.getElem?_eq_some_iff.1 hj).1)
 rw [hj,hu] at this
 simpa using this
theorem Z2z {e:Env} {op:Op} (hq:mild op=true):isW op=false/\Zh op ≠ .call/\frozen X e op=[]:=by
 by_cases hq2:quiet op=true
 ·exact ⟨(Z4E hq2).1,(Z4E hq2).2,quiet_frozen hq2⟩
 ·cases op<;>simp only [mild,hq2,YB] at hq;exact ⟨rfl,by simp [Zh],rfl⟩
theorem mild_ask {call:ZR} {base i:Nat} {o:Oper} {e e':Env} {G G':Heap} (hq:mild o.op=true) (h:Zk X call n ops base i o e G=some (e',G')):¬(ZP ops e o=some true/\ZK X ops base i o e=false):=by
 intro c
 unfold Zk at h
 rw [if_pos c] at h
 split at h
 ·rename_i hs;exact (Z2z (X:=X) (e:=e) hq).2.1 hs.1
 ·cases h
theorem Z2k {G ρ:Heap} {k:Nat} (h:ρ.ent k = .none):(G.join ρ).ent k=G.ent k:=by simp only [Heap.join,h]
theorem Z5C {G ρ:Heap} {k:Nat} (h:ρ.ent k ≠ .none):(G.join ρ).ent k=ρ.ent k:=by
 show (match ρ.ent k with | .none=>G.ent k|en=>en)=ρ.ent k
 cases he:ρ.ent k with
 | none=>exact absurd he h
 | _=>rfl
theorem join_put {G ρ:Heap} {k:Nat} {en:Ent} (h:ρ.ent k = .none):(G.put k en).join ρ=(G.join ρ).put k en:=by
 simp only [Heap.join,Heap.put,upd]
 congr 1
 funext j
 by_cases hj:j=k
 ·subst hj;simp [h,upd]
 ·simp [hj,upd]
theorem Z5a:∀ {δ:List (Nat×Ent)} {G ρ:Heap},(∀ k en,(k,en)∈δ->ρ.ent k = .none)->(appl G δ).join ρ=appl (G.join ρ) δ
 | [],_,_,_=>rfl
 | (j,en)::δ,G,ρ,h=>by
  show (appl (G.put j en) δ).join ρ=appl ((G.join ρ).put j en) δ;rw [Z5a λk' en' hm=>h k' en' (YH _ hm),join_put (h j en YN)]
theorem fresh_op {call:ZR} (hcp:CallPure X call) {i:Nat} {e:Env} {op:Op} {G G':Heap} {id:Nat} {x:PV} (hs:Z1V X ops i e op=true) (h:Z2 X call e G id op=some (x,G')) :
  ∃ ρ,G'=G.join ρ/\(∀ k,k<G.nx->ρ.ent k = .none)/\∀ G2 id2,G2.nx=G.nx->Z2 X call e G2 id2 op=some (x,G2.join ρ):=by
 unfold Z1V at hs
 rw [Y8] at hs
 obtain ⟨_,hs⟩:=hs
 split at hs
 ·rename_i c
  split at hs
  ·rename_i f hc
   split at hs
   ·rename_i g args hg ha;simp only [Y8,YQ] at hs;obtain ⟨⟨⟨h1,h2⟩,h3⟩,h4⟩:=hs;simp only [Z2,ZM,ha,hc,hg] at h;obtain ⟨ρ,q1,q2,_,q3⟩:=hcp.fresh g args G x G' h h1 h2 h3 h4;exact ⟨ρ,q1,q2,λG2 id2 hn=>by
     simp only [Z2,ZM,ha,hc,hg];exact q3 G2 hn⟩
   ·cases hs
  ·cases hs
 ·cases hs
theorem shut_op {call:ZR} (hcp:CallPure X call) {base i:Nat} {e:Env} {op:Op} {G G':Heap} {id:Nat} {x:PV} (hs:Z2V X ops base i e op=true) (h:Z2 X call e G id op=some (x,G')) :
  G'=G/\∀ G2 id2,G2.nx=G.nx->(∀ k,k<base->G2.ent k=G.ent k)->Z2 X call e G2 id2 op=some (x,G2):=by
 unfold Z2V at hs
 rw [Y8] at hs
 obtain ⟨_,hs⟩:=hs
 split at hs
 ·rename_i c
  split at hs
  ·rename_i f hc
   split at hs
   ·rename_i g args hg ha;simp only [Y8,YQ,YC,decide_eq_true_eq] at hs;obtain ⟨⟨⟨⟨h1,h2⟩,h3⟩,h4⟩,h5⟩:=hs;simp only [Z2,ZM,ha,hc,hg] at h;obtain ⟨q1,q2⟩:=hcp.shut g args G x G' h h1 h2 h3 h4;exact ⟨q1,λG2 id2 hn hk=>by
     simp only [Z2,ZM,ha,hc,hg];exact q2 G2 hn λk hkk=>hk k (h5 k hkk)⟩
   ·cases hs
  ·cases hs
 ·cases hs
theorem Z35:∀ {δ:List (Nat×Ent)} {G:Heap},(appl G δ).nx=G.nx
 | [],_=>rfl
 | (j,en)::δ,G=>by
  show (appl (G.put j en) δ).nx=G.nx;rw [Z35]
  rfl
theorem mild_look {base i:Nat} {o:Oper} {e:Env} (hm:mild o.op=true) (ha:ZO X ops base i o e=true) {k:Nat} (hk:Z4t X e o.op k):k<base+ops.size:=by
 obtain ⟨m1,_,m3⟩:=Z2z (X:=X) (e:=e) hm
 rcases hk with ⟨hrw,ht⟩|hf
 ·rcases Z1n hrw with h1|h1
  ·exact ask_lt ha h1 ht
  ·rw [Z3p.2 h1] at m1;cases m1
 ·rw [m3] at hf;cases hf
theorem swap {call:ZR} (hcp:CallPure X call) (hd:Z1j ops=true) {base i j:Nat} {oi oj:Oper} (hi:ops[i]? = some oi) (hj:ops[j]? = some oj) (hlt:j<i)
  (hno:∀ e∈oi.after,Region.binds .any e=true->e.on≠j) (hb:((Region.before ops).getD i 0).testBit j=false)
  {e e1 e2:Env} {G G1 G2:Heap} (h1:Zk X call n ops base j oj e G=some (e1,G1)) (h2:Zk X call n ops base i oi e1 G1=some (e2,G2)) :
  ∃ e1' G1',Zk X call n ops base i oi e G=some (e1',G1')/\Zk X call n ops base j oj e1' G1'=some (e2,G2):=by
 obtain ⟨hlex,_,ha⟩:=Z3i hd
 obtain ⟨p1,p2,p3⟩:=Oper.apart_spec (apart_of hlex hi hj hlt hno)
 have hb':((Region.before ops).getD j 0).testBit i=false:=by
  cases h:((Region.before ops).getD j 0).testBit i with
  | false=>rfl
  | true=>have:=bits_lt ha j h;omega
 have hu:unord (Region.before ops) i j=true:=by
  unfold unord;rw [Nat.max_eq_left (Nat.le_of_lt hlt),Nat.min_eq_right (Nat.le_of_lt hlt),hb]
  simp
  omega
 have hjl:=(Array.getElem?_eq_some_iff.1 hj).1
 have hil:=(Array.getElem?_eq_some_iff.1 hi).1
 have hdst:∀ {k:Nat} {o:Oper} {t:Nat},ops[k]? = some o->(ops.any λo=>o.dst==some t)=false->o.dst≠some t:=λ{k o t} hk h hh=>by
  rw [Array.any_eq_false] at h;obtain ⟨hk1,hk2⟩:=Array.getElem?_eq_some_iff.1 hk;have:=h k hk1;rw [hk2,hh] at this;simp at this
 have naj:=Z6m hil (Z0K hu)
 have nai:=Z6m hjl hu
 by_cases cj:ZP ops e oj=some true/\ZK X ops base j oj e=false
 ·obtain ⟨hs,xj,rfl,q1,lj⟩:=Z6b cj h1;rcases hs.2 with hsh|hs2|⟨hsh,hnx⟩
  ·have hmi:=Z3M (by unfold Z2V at hsh;exact (Y8 _ _▸hsh).1) hi (Z0K hu)
   obtain ⟨rfl,q2⟩:=shut_op hcp hsh q1;have st1:Stable ops (putD n e oj.dst xj) e:=λt ht=>Zj (hdst hj ht);have hei:∀ t∈oi.looksAt ops,putD n e oj.dst xj t=e t:=λt ht=>Zj λhh=>p1 t hh ht;obtain ⟨xi,δi,rfl,rfl,_,ki,li⟩:=Z0o hcp nai (mild_ask hmi h2) h2;have s1:=li e G1 st1 hei (λ_ _ _=>rfl);refine ⟨_,_,s1,?_⟩;have hej:∀ t∈oj.looksAt ops,e t=putD n e oi.dst xi t:=λt ht=>(Zj λhh=>p3 t hh ht).symm;have hsej:=Z1k (ops:=ops) hej;have st3:Stable ops e (putD n e oi.dst xi):=λt ht=>(Zj (hdst hi ht)).symm;have hold:∀ k,k<base->(appl G1 δi).ent k=G1.ent k:=λk hk=>Z4v λk' en hm hke=>by
    obtain ⟨_,h⟩:=ki k' en hm;obtain ⟨m1,_,m3⟩:=Z2z (X:=X) (e:=putD n e oj.dst xj) hmi;rcases h with h|⟨h,_⟩|h
    ·omega
    ·rw [m1] at h;cases h
    ·rw [m3] at h;cases h
   have s2:Z2 X call (putD n e oi.dst xi) (appl G1 δi) (base+j) oj.op=some (xj,appl G1 δi):=by
    rw [<- Z0n hsej];exact q2 _ _ Z35 hold
   have c2:ZP ops (putD n e oi.dst xi) oj=some true/\ZK X ops base j oj (putD n e oi.dst xi)=false:=by
    rw [<- Zq hej,<- Z0p st3 hsej];exact cj
   unfold Zk;rw [if_pos c2,if_pos ⟨hs.1,.inl ((Z3u hsej).symm.trans hsh)⟩];unfold Zv;rw [c2.1];simp only [s2,Y1];rw [Z1g (λt ht hh=>p2 t hh ht)]
  ·replace hs:=And.intro hs.1 hs2;have hqi:=Z64 hs.2.1 hi (Z0K hu);have st1:Stable ops (putD n e oj.dst xj) e:=λt ht=>Zj (hdst hj ht);have hei:∀ t∈oi.looksAt ops,putD n e oj.dst xj t=e t:=λt ht=>Zj λhh=>p1 t hh ht;obtain ⟨rfl,xi,rfl,s1⟩:=Z6O hqi nai h2 st1 hei (λk hk=>(hs.2.2 _ _ _ q1 k hk).symm);refine ⟨_,_,s1,?_⟩;rw [lj (putD n e oi.dst xi) (λt ht=>(Zj (hdst hi ht)).symm) (λt ht=>(Zj λhh=>p3 t hh ht).symm),Z1g (λt ht hh=>p2 t hh ht)]
  ·have hmi:=Z3M (by unfold Z1V at hsh;exact (Y8 _ _▸hsh).1) hi (Z0K hu)
   obtain ⟨ρ,rfl,q0,q2⟩:=fresh_op hcp hsh q1;have st1:Stable ops (putD n e oj.dst xj) e:=λt ht=>Zj (hdst hj ht);have hei:∀ t∈oi.looksAt ops,putD n e oj.dst xj t=e t:=λt ht=>Zj λhh=>p1 t hh ht;obtain ⟨xi,δi,rfl,rfl,ai,ki,li⟩:=Z0o hcp nai (mild_ask hmi h2) h2;have kb:∀ k en,(k,en)∈δi->k=base+i:=λk en hm=>by
    obtain ⟨_,h⟩:=ki k en hm;obtain ⟨m1,_,m3⟩:=Z2z (X:=X) (e:=putD n e oj.dst xj) hmi;rcases h with h|⟨h,_⟩|h
    ·exact h
    ·rw [m1] at h;cases h
    ·rw [m3] at h;cases h
   have hρ:∀ k en,(k,en)∈δi->ρ.ent k = .none:=λk en hm=>q0 k (by have:=kb k en hm;omega)
   have s1:=li e G st1 hei (λhw k hk=>(Z2k (q0 k (by have:=mild_look hmi (ai hw) hk;omega))).symm)
   refine ⟨_,_,s1,?_⟩;have hej:∀ t∈oj.looksAt ops,e t=putD n e oi.dst xi t:=λt ht=>(Zj λhh=>p3 t hh ht).symm;have hsej:=Z1k (ops:=ops) hej;have st3:Stable ops e (putD n e oi.dst xi):=λt ht=>(Zj (hdst hi ht)).symm;have s2:Z2 X call (putD n e oi.dst xi) (appl G δi) (base+j) oj.op=some (xj,(appl G δi).join ρ):=by
    rw [<- Z0n hsej];exact q2 _ _ Z35
   have c2:ZP ops (putD n e oi.dst xi) oj=some true/\ZK X ops base j oj (putD n e oi.dst xi)=false:=by
    rw [<- Zq hej,<- Z0p st3 hsej];exact cj
   unfold Zk;rw [if_pos c2,if_pos ⟨hs.1,.inr (.inr ⟨(Z3P hsej).symm.trans hsh,by rw [Z35];exact hnx⟩)⟩]
   unfold Zv;rw [c2.1];simp only [s2,Y1];rw [Z1g (λt ht hh=>p2 t hh ht),Z5a hρ]
 by_cases ci:ZP ops e1 oi=some true/\ZK X ops base i oi e1=false
 ·obtain ⟨hs,xi,rfl,q1,li⟩:=Z6b ci h2;rcases hs.2 with hsh|hs2|⟨hsh,hnx⟩
  ·have hmj:=Z3M (by unfold Z2V at hsh;exact (Y8 _ _▸hsh).1) hj hu
   obtain ⟨rfl,q2⟩:=shut_op hcp hsh q1;obtain ⟨xj,δj,rfl,rfl,_,kj,lj⟩:=Z0o hcp naj cj h1;have hei:∀ t∈oi.looksAt ops,putD n e oj.dst xj t=e t:=λt ht=>Zj λhh=>p1 t hh ht;have hsei:=Z1k (ops:=ops) hei;have st1:Stable ops (putD n e oj.dst xj) e:=λt ht=>Zj (hdst hj ht);have st3:Stable ops e (putD n e oi.dst xi):=λt ht=>(Zj (hdst hi ht)).symm;have hej:∀ t∈oj.looksAt ops,e t=putD n e oi.dst xi t:=λt ht=>(Zj λhh=>p3 t hh ht).symm;have hold:∀ k,k<base->G.ent k=(appl G δj).ent k:=λk hk=>(Z4v λk' en hm hke=>by
    obtain ⟨_,h⟩:=kj k' en hm;obtain ⟨m1,_,m3⟩:=Z2z (X:=X) (e:=e) hmj;rcases h with h|⟨h,_⟩|h
    ·omega
    ·rw [m1] at h;cases h
    ·rw [m3] at h;cases h).symm
   have s1:Z2 X call e G (base+i) oi.op=some (xi,G):=by
    rw [<- Z0n hsei];exact q2 _ _ Z35.symm hold
   have c1:ZP ops e oi=some true/\ZK X ops base i oi e=false:=by
    rw [<- Zq hei,<- Z0p st1 hsei];exact ci
   have s2:Zk X call n ops base i oi e G=some (putD n e oi.dst xi,G):=by
    unfold Zk;rw [if_pos c1,if_pos ⟨hs.1,.inl ((Z3u hsei).symm.trans hsh)⟩];unfold Zv;rw [c1.1];simp only [s1,Y1]
   refine ⟨_,_,s2,?_⟩;rw [lj (putD n e oi.dst xi) G st3 hej (λ_ _ _=>rfl),Z1g (λt ht hh=>p2 t hh ht)]
  ·replace hs:=And.intro hs.1 hs2;have hqj:=Z64 hs.2.1 hj hu;have hG1:=Z6e hqj h1;subst hG1;obtain ⟨xj,δj,rfl,_,_⟩:=Z0o hcp naj cj h1;have s1:=li e (λt ht=>Zj (hdst hj ht)) (λt ht=>Zj λhh=>p1 t hh ht);refine ⟨_,_,s1,?_⟩;obtain ⟨_,x',hx',s2⟩:=Z6O (G2:=G2) (e2:=putD n e oi.dst xi) hqj naj h1 (λt ht=>(Zj (hdst hi ht)).symm) (λt ht=>(Zj λhh=>p3 t hh ht).symm) (λk hk=>hs.2.2 _ _ _ q1 k hk);rw [s2,Z1g (λt ht hh=>p2 t hh ht),<- hx']
  ·have hmj:=Z3M (by unfold Z1V at hsh;exact (Y8 _ _▸hsh).1) hj hu
   obtain ⟨ρ,rfl,q0,q2⟩:=fresh_op hcp hsh q1;obtain ⟨xj,δj,rfl,rfl,aj,kj,lj⟩:=Z0o hcp naj cj h1;rw [Z35] at hnx q0;have hei:∀ t∈oi.looksAt ops,putD n e oj.dst xj t=e t:=λt ht=>Zj λhh=>p1 t hh ht;have hsei:=Z1k (ops:=ops) hei;have st1:Stable ops (putD n e oj.dst xj) e:=λt ht=>Zj (hdst hj ht);have st3:Stable ops e (putD n e oi.dst xi):=λt ht=>(Zj (hdst hi ht)).symm;have hej:∀ t∈oj.looksAt ops,e t=putD n e oi.dst xi t:=λt ht=>(Zj λhh=>p3 t hh ht).symm;have kb:∀ k en,(k,en)∈δj->k=base+j:=λk en hm=>by
    obtain ⟨_,h⟩:=kj k en hm;obtain ⟨m1,_,m3⟩:=Z2z (X:=X) (e:=e) hmj;rcases h with h|⟨h,_⟩|h
    ·exact h
    ·rw [m1] at h;cases h
    ·rw [m3] at h;cases h
   have hρ:∀ k en,(k,en)∈δj->ρ.ent k = .none:=λk en hm=>q0 k (by have:=kb k en hm;omega)
   have s1:Z2 X call e G (base+i) oi.op=some (xi,G.join ρ):=by
    rw [<- Z0n hsei];exact q2 _ _ Z35.symm
   have c1:ZP ops e oi=some true/\ZK X ops base i oi e=false:=by
    rw [<- Zq hei,<- Z0p st1 hsei];exact ci
   have s2:Zk X call n ops base i oi e G=some (putD n e oi.dst xi,G.join ρ):=by
    unfold Zk;rw [if_pos c1,if_pos ⟨hs.1,.inr (.inr ⟨(Z3P hsei).symm.trans hsh,hnx⟩)⟩];unfold Zv;rw [c1.1];simp only [s1,Y1]
   refine ⟨_,_,s2,?_⟩;rw [lj (putD n e oi.dst xi) (G.join ρ) st3 hej (λhw k hk=>Z2k (q0 k (by have:=mild_look hmj (aj hw) hk;omega))),Z1g (λt ht hh=>p2 t hh ht),Z5a hρ]
 obtain ⟨xj,δj,rfl,rfl,aj,kj,lj⟩:=Z0o hcp naj cj h1
 obtain ⟨xi,δi,rfl,rfl,ai,ki,li⟩:=Z0o hcp nai ci h2
 have st1:Stable ops (putD n e oj.dst xj) e:=λt ht=>Zj (hdst hj ht)
 have st2:Stable ops e (putD n e oj.dst xj):=λt ht=>(st1 t ht).symm
 have st3:Stable ops e (putD n e oi.dst xi):=λt ht=>(Zj (hdst hi ht)).symm
 have hei:∀ t∈oi.looksAt ops,putD n e oj.dst xj t=e t:=λt ht=>Zj λhh=>p1 t hh ht
 have hej:∀ t∈oj.looksAt ops,e t=putD n e oi.dst xi t:=λt ht=>(Zj λhh=>p3 t hh ht).symm
 have hij:∀ k en,(k,en)∈δj->ZP ops (putD n e oj.dst xj) oi=some true->Z4t X (putD n e oj.dst xj) oi.op k->False:=λk en hk hw hm=>by
  obtain ⟨w,hk⟩:=kj k en hk;exact key_look hd st2 hi hj hu hb (ai hw) (aj w) hk hm
 have hji:∀ k en,(k,en)∈δi->ZP ops e oj=some true->Z4t X e oj.op k->False:=λk en hk hw hm=>by
  obtain ⟨w,hk⟩:=ki k en hk;exact key_look hd st1 hj hi (Z0K hu) hb' (aj hw) (ai w) hk hm
 have s1:=li e G st1 hei (λhw k hk=>(Z4v λk' en hh hke=>hij k' en hh hw (hke▸hk)).symm)
 have s2:=lj (putD n e oi.dst xi) (appl G δi) st3 hej (λhw k hk=>Z4v λk' en hh hke=>hji k' en hh hw (hke▸hk))
 refine ⟨_,_,s1,?_⟩
 rw [s2,Z1g (λt ht hh=>p2 t hh ht),appl_comm]
 intro k en k' en' hk hk' hkk
 subst hkk
 obtain ⟨wi,hki⟩:=ki k en hk
 obtain ⟨wj,hkj⟩:=kj k en' hk'
 rcases hki with hki|⟨w1,w2⟩|hf
 ·rcases hkj with hkj|⟨w3,w4⟩|hf
  ·omega
  ·exact hji k en hk wj (.inl ⟨isW_isRW w3,w4⟩)
  ·exact hji k en hk wj (.inr hf)
 ·exact hij k en' hk' wi (.inl ⟨isW_isRW w1,w2⟩)
 ·exact hij k en' hk' wi (.inr hf)
noncomputable def runs (X:Ctx) (call:ZR) (n:Nat) (ops:Array Oper) (base:Nat):List (Nat×Oper)->Env->Heap->Option (Env×Heap)
 | [],e,G=>some (e,G)
 | (i,o)::l,e,G=>(Zk X call n ops base i o e G).bind λr=>runs X call n ops base l r.1 r.2
theorem Z5G {call:ZR} {base:Nat}:∀ (l:List Oper) (i:Nat) (e:Env) (G:Heap),Z0E X call n ops base i l e G=runs X call n ops base (l.zipIdx i |>.map λp=>(p.2,p.1)) e G
 | [],_,_,_=>rfl
 | o::l,i,e,G=>by
  simp only [Z0E,List.zipIdx_cons,Yz,runs]
  congr 1
  funext r
  exact Z5G l (i+1) r.1 r.2
def Closed (ops:Array Oper) (listed:Array Bool):Prop:=∀ k,listed.getD k false=true->∀ j,((Region.before ops).getD k 0).testBit j=true->listed.getD j false=true
theorem getD_tf {listed:Array Bool} {i:Nat} (h:listed.getD i true=false):listed.getD i false=false:=by
 rcases YF i listed.size with h'|h'
 ·simpa [Y7,h'] using h
 ·simp [Y7,Yr h']
theorem bubble {call:ZR} (hcp:CallPure X call) (hd:Z1j ops=true) {base i:Nat} {oi:Oper} {post:List (Nat×Oper)} {r:Env×Heap} (hi:ops[i]? = some oi) :
  ∀ (pre:List (Nat×Oper)) (e:Env) (G:Heap),(∀ p∈pre,ops[p.1]? = some p.2/\p.1<i/\(∀ e∈oi.after,Region.binds .any e=true->e.on≠p.1)/\((Region.before ops).getD i 0).testBit p.1=false) ->
   runs X call n ops base (pre++(i,oi)::post) e G=some r->runs X call n ops base ((i,oi)::(pre++post)) e G=some r
 | [],_,_,_,h=>h
 | (j,oj)::pre,e,G,hp,h=>by
  simp only [List.cons_append,runs,Y2] at h;obtain ⟨⟨e1,G1⟩,h1,h2⟩:=h;have:=bubble hcp hd hi pre e1 G1 (λp hm=>hp p (by simp [hm])) h2
  simp only [runs,Y2] at this;obtain ⟨⟨e2,G2⟩,h3,h4⟩:=this;obtain ⟨q1,q2,q3,q4⟩:=hp (j,oj) (by simp)
  obtain ⟨e1',G1',s1,s2⟩:=swap hcp hd hi q1 q2 q3 q4 h1 h3;simp only [List.cons_append,runs,s1,s2,Y1];exact h4
theorem Z6A {call:ZR} {base i:Nat} {o:Oper} {e:Env} {G:Heap} {r:Env×Heap} (h:Zk X call n ops base i o e G=some r):Zv X call n ops base i o e G=some r:=by
 unfold Zk at h
 split at h
 ·split at h
  ·exact h
  ·cases h
 ·exact h
variable {Q:Exit->Act->World->Prop} {m:Nat}
theorem draw_any {call:ZR} (hcall:Z1h X call) (htame:Z08 call) (hcp:CallPure X call) (hd:Z1j ops=true) {rd:Option Nat} {base:Nat} {e':Env} {G':Heap} :
  ∀ (len:Nat) (rem:List (Nat×Oper)) (listed:Array Bool) (s:St) (e:Env) (a:Act),rem.length=len->Zp X s->Inv s->EnvR s n e a ->
   listed.size=ops.size->(∀ p∈rem,ops[p.1]? = some p.2/\listed.getD p.1 true=false)->(∀ i,i<ops.size->listed.getD i true=false->∃ p∈rem,p.1=i) ->
   rem.Pairwise (λp q=>p.1<q.1)->Closed ops listed->(∀ p∈rem,s.G.ent (base+p.1) = .none/\base+p.1<s.G.nx) ->
   runs X call n ops base rem e s.G=some (e',G')->(∀ a' w' D',Then s n a e' G' a' w' D'->Q .normal a' w') ->
   wpAnyIn (Fw rd) m X.P .any ops Q len listed a s.w:=by
 obtain ⟨hlex,hww,ha⟩:=Z3i hd
 intro len
 induction len with
 | zero=>
  intro rem listed s e a hl hG hi he hsz hr1 hr2 _ _ _ h hQ;have:rem=[]:=List.length_eq_zero_iff.1 hl;subst this;refine ⟨?_,?_⟩
  ·refine List.eq_nil_iff_forall_not_mem.2 λj hj=>?_;obtain ⟨q1,o,q2,_⟩:=mem_ready.1 hj;obtain ⟨p,hp,_⟩:=hr2 j (Array.getElem?_eq_some_iff.1 q2).1 q1;cases hp
  ·simp [runs] at h;obtain ⟨rfl,rfl⟩:=h;exact hQ a s.w s.D ⟨hi,Ev.refl s,he,rfl⟩
 | succ len ih=>
  intro rem listed s e a hl hG hi he hsz hr1 hr2 hp hcl hf h hQ;refine ⟨λh0=>?_,λi hir=>?_⟩
  ·exfalso
   cases rem with
   | nil=>simp at hl
   | cons p rem=>
    obtain ⟨q1,q2⟩:=hr1 p (by simp)
    have:p.1∈Region.ready .any ops listed:=by
     refine mem_ready.2 ⟨q2,p.2,q1,λe he hb=>?_⟩;have hlt:=ha _ _ q1 e he hb
     cases hc:listed.getD e.on false with
     | true=>rfl
     | false=>
      exfalso
      have hes:e.on<ops.size:=Nat.lt_trans hlt (Array.getElem?_eq_some_iff.1 q1).1;have:listed.getD e.on true=false:=by
       have h':e.on<listed.size:=by omega
       simpa [Y7,h'] using hc
      obtain ⟨p',hp',he'⟩:=hr2 _ hes this;rcases List.mem_cons.1 hp' with rfl|hp'
      ·omega
      ·have:=List.rel_of_pairwise_cons hp hp';omega
    rw [h0] at this;cases this
  ·obtain ⟨q1,oi,q2,q3⟩:=mem_ready.1 hir;obtain ⟨p,hpm,hpi⟩:=hr2 i (Array.getElem?_eq_some_iff.1 q2).1 q1;obtain ⟨pre,post,rfl⟩:=List.append_of_mem hpm;have hpo:p=(i,oi):=by
    obtain ⟨h1,_⟩:=hr1 p hpm;rw [hpi,q2] at h1;exact Prod.ext hpi (Option.some.inj h1).symm
   subst hpo;have hlast:∀ p∈pre,p.1<i:=λp hp'=>(List.pairwise_append.1 hp).2.2 p hp' (i,oi) (by simp)
   have hbits:∀ j,((Region.before ops).getD i 0).testBit j=true->listed.getD j false=true:=λj hj=>by
    obtain ⟨ed,he1,he2,he3⟩:=Z5y q2 hj;have:=q3 ed he1 he2;rcases he3 with rfl|he3
    ·exact this
    ·exact hcl _ this j he3
   have hb:=bubble hcp hd q2 pre e s.G (λp hp'=>by
    obtain ⟨w1,w2⟩:=hr1 p (by simp [hp'])
    have w3:=getD_tf w2;refine ⟨w1,hlast p hp',λe he1 he2 he3=>?_,?_⟩
    ·have:=q3 e he1 he2;rw [he3,w3] at this;cases this
    ·cases hbb:((Region.before ops).getD i 0).testBit p.1 with
     | false=>rfl
     | true=>rw [hbits _ hbb] at w3;cases w3) h
   simp only [runs,Y2] at hb;obtain ⟨⟨e1,G1⟩,h1,h2⟩:=hb;have h1:=Z6A h1;have hT:=Z36 htame h1;obtain ⟨f1,f2⟩:=hf (i,oi) (by simp)
   have hne:∀ p∈pre++post,p.1≠i:=λp hp'=>by
    rcases List.mem_append.1 hp' with h|h
    ·exact Nat.ne_of_lt (hlast p h)
    ·have:=List.rel_of_pairwise_cons ((List.pairwise_append.1 hp).2.1) h;exact Nat.ne_of_gt this
   have hmem:∀ p∈pre++post,p∈pre++(i,oi)::post:=λp hp'=>by
    rcases List.mem_append.1 hp' with h|h<;>simp [h]
   have:=stepO_ok (m:=m) (Q:=Q) (rd:=rd) hcall hG hi he f1 f2 h1 (K:=wpAnyIn (Fw rd) m X.P .any ops Q len (listed.setIfInBounds i true)) (λa1 w1 D1 ht=>by
    refine ih (pre++post) _ ⟨w1,s.Y,G1,D1⟩ e1 a1 (by simp at hl ⊢;omega) (hG.mono ht.ev) ht.inv ht.env (by simpa using hsz) (λp hp'=>?_) (λk hk hkl=>?_) ?_ ?_ (λp hp'=>?_) h2
     (λa' w' D' ht2=>hQ a' w' D' ⟨ht2.inv,ht.ev.trans ht2.ev,ht2.env,ht2.defers.trans ht.defers⟩)
    ·obtain ⟨w1,w2⟩:=hr1 p (hmem p hp');exact ⟨w1,by rw [getD_set_ne true (Ne.symm (hne p hp'))];exact w2⟩
    ·have hki:k≠i:=by
      rintro rfl;have:k<listed.size:=by omega
      simp [Y7,this] at hkl
     rw [getD_set_ne true (Ne.symm hki)] at hkl;obtain ⟨p,hp1,hp2⟩:=hr2 k hk hkl;refine ⟨p,?_,hp2⟩;rcases List.mem_append.1 hp1 with h|h
     ·exact Y00 _ h
     ·rcases List.mem_cons.1 h with rfl|h
      ·exact absurd hp2.symm hki
      ·exact Yx _ h
    ·rw [List.pairwise_append] at hp ⊢;exact ⟨hp.1,(List.pairwise_cons.1 hp.2.1).2,λa ha b hb=>hp.2.2 a ha b (by simp [hb])⟩
    ·intro k hk j hj
     by_cases hki:k=i
     ·subst hki;exact getD_set_true (hbits j hj)
     ·rw [getD_set_ne false (Ne.symm hki)] at hk;exact getD_set_true (hcl k hk j hj)
    ·obtain ⟨g1,g2⟩:=hf p (hmem p hp');exact ⟨hT.2 _ g2 (by have:=hne p hp';simp;omega) g1,YL g2 hT.1⟩)
   unfold wpOpIn;rw [q2];exact this
def St.drawn (s:St):St:=⟨{ s.w with drawn:=s.w.drawn+1 },s.Y,s.G,s.D⟩
theorem drawn_ev (s:St):Ev s s.drawn where
 Y:=rfl
 size:=YA _
 keep:=λ_ _ _=>rfl
 live:=λid h _=>⟨id,h,rfl⟩
 blk:=λid el cells lv h=>⟨cells,lv,h,YA _,λ_=>⟨rfl,λcs e fr h=>⟨cs,fr,h,rfl⟩⟩⟩
 loop:=λid fn e n ps as_ bo st pend h=>⟨⟨st,pend,h⟩,rfl⟩
 map:=λid kv h=>⟨⟨kv,h⟩,rfl⟩
 os:=rfl
 tape:=rfl
 output:=rfl
theorem drawn_inv {s:St} (hi:Inv s):Inv s.drawn :=
 ⟨λid=>Z6g (drawn_ev s) rfl rfl (hi.ent id),hi.inj,hi.notY,λid el c h=>((drawn_ev s).imm _ (hi.fz id el c h)).1,hi.nx,hi.Ylt⟩
theorem draw_ok {s:St} {e:Env} {a:Act} {call:ZR} (hm:X.P.follows .mixedOrders=true) (hcall:Z1h X call) (htame:Z08 call) (hcp:CallPure X call) {rd:Option Nat} {id:Nat} {e':Env} {G':Heap} (hd:Z1j ops=true) (hG:Zp X s) (hi:Inv s) (he:EnvR s n e a)
  (h:Z0E X call n ops s.G.nx 0 ops.toList e ⟨s.G.nx+ops.size,s.G.ent⟩=some (e',G')) (hQ:∀ a' w' D',Then s n a e' G' a' w' D'->Q .normal a' w') :
  (Code.region id ops true).wpIn (Fw rd) m X.P Q a s.w:=by
 refine wpIn_region_any hm ?_
 have ev:Ev s (s.more ops.size).drawn:=(Z0z _).trans (drawn_ev _)
 rw [Z5G] at h
 have:=draw_any (m:=m) (Q:=Q) (rd:=rd) hcall htame hcp hd (base:=s.G.nx) ops.size (ops.toList.zipIdx 0 |>.map λp=>(p.2,p.1)) (Array.replicate ops.size false) (s.more ops.size).drawn e a (by simp)
  (hG.mono ev) (drawn_inv (Z3s hi _)) (he.mono ev) (by simp)
  (λp hp=>by
   obtain ⟨q,hq,rfl⟩:=List.mem_map.1 hp;have hq:=List.mem_zipIdx_iff_getElem?.1 hq;have hlt:q.2<ops.size:=by
    have:=(List.getElem?_eq_some_iff.1 hq).1
    simpa using this
   exact ⟨by simpa using hq,by simp [Y7,hlt]⟩)
  (λi hi _=>⟨(i,ops[i]),List.mem_map.2 ⟨(ops[i],i),List.mem_zipIdx_iff_getElem?.2 (by simp [hi]),rfl⟩,rfl⟩)
  (by
   rw [List.pairwise_map];have key:∀ (l:List Oper) (k:Nat),(l.zipIdx k).Pairwise (λp q=>p.2<q.2):=by
    intro l
    induction l with
    | nil=>intro k;simp
    | cons o l ih=>
     intro k;rw [List.zipIdx_cons,List.pairwise_cons];refine ⟨λp hp=>?_,ih _⟩;have:=List.le_snd_of_mem_zipIdx hp;simp only;omega
   exact key _ _)
  (λk hk=>by
   exfalso
   simp only [Y7] at hk;rcases YF k ops.size with h|h
   ·simp [h] at hk
   ·rw [Yr (by simpa using h)] at hk;cases hk)
  (λp hp=>by
   obtain ⟨q,hq,rfl⟩:=List.mem_map.1 hp;have hq:=List.mem_zipIdx_iff_getElem?.1 hq;have hlt:q.2<ops.size:=by
    have:=(List.getElem?_eq_some_iff.1 hq).1
    simpa using this
   exact ⟨hi.nx _ (by simp only;omega),by simp only [St.drawn,St.more];omega⟩)
  h (λa' w' D' ht=>hQ a' w' D' ⟨ht.inv,ev.trans ht.ev,ht.env,ht.defers⟩)
 exact this
end
end Go.Dn

namespace Go.Dn
open Go
structure LPut (s:St) (id:Nat) (fn:FuncId) (e:Env) (n:Nat) (ps:List Nat) (as_ bo:Code) (st:LoopState) (pend:Option Code) (g:Nat) (w':World):Prop where
 old:(s.G.ent id = .none/\s.w.heap.size<=g)\/((∃ st0 pend0,s.G.ent id = .loop fn e n ps as_ bo st0 pend0)/\g=s.D id)
 size:s.w.heap.size<=w'.heap.size
 others:∀ b,b<s.w.heap.size->b≠g->w'.heap[b]? = s.w.heap[b]?
 here:∃ fn' tmps defers,w'.heap[g]? = some (.loop { state:=st,pending:=pend,fn:=fn',tmps:=tmps,params:=ps.toArray,assign:=as_,body:=bo,defers:=defers }) /\
  tmps.size=n/\∀ t,PVR s (e t) (tmps.getD t Go.undef)
 nx:id<s.G.nx
 os:w'.os=s.w.os
 tape:w'.tape=s.w.tape
 output:w'.output=s.w.output
def St.lput (s:St) (id:Nat) (en:Ent) (g:Nat) (w':World):St:=⟨w',s.Y,s.G.put id en,upd s.D id g⟩
section
variable {s:St} {id:Nat} {fn:FuncId} {e:Env} {n:Nat} {ps:List Nat} {as_ bo:Code} {st:LoopState} {pend:Option Code} {g:Nat} {w':World}
theorem LPut.old_rec (hi:Inv s) {st0:LoopState} {pend0:Option Code} (h:s.G.ent id = .loop fn e n ps as_ bo st0 pend0):∃ fn' tmps defers,s.w.heap[s.D id]? = some (.loop { state:=st0,pending:=pend0,fn:=fn',tmps:=tmps,params:=ps.toArray,assign:=as_,body:=bo,defers:=defers }) /\
  tmps.size=n/\∀ t,PVR s (e t) (tmps.getD t Go.undef):=by
 have:=hi.ent id
 rw [h] at this
 exact this
theorem LPut.ne (hi:Inv s) (h:LPut s id fn e n ps as_ bo st pend g w') {id':Nat} (hne:id'≠id) (hl:Live s.G id'):s.D id'≠g:=by
 intro e
 rcases h.old with ⟨_,hp⟩|⟨⟨s0,p0,ho⟩,hp⟩
 ·have:=hl.lt hi;omega
 ·exact hne (hi.inj id' id hl (.inr (.inl ⟨_,_,_,_,_,_,_,_,ho⟩)) (e.trans hp))
theorem LPut.blk_ne (hi:Inv s) (h:LPut s id fn e n ps as_ bo st pend g w') {b:Nat} {cs:Array Value} {el:TypeId} {fr:Nat×Nat} (hb:s.w.heap[b]? = some (.cells cs el fr)):b≠g:=by
 intro hg
 subst hg
 rcases h.old with ⟨_,hp⟩|⟨⟨s0,p0,ho⟩,hp⟩
 ·have:=(Array.getElem?_eq_some_iff.1 hb).1;omega
 ·obtain ⟨f,t,d,q,_⟩:=LPut.old_rec hi ho;rw [<- hp,hb] at q;cases q
theorem LPut.ev (hi:Inv s) (h:LPut s id fn e n ps as_ bo st pend g w'):Ev s (s.lput id (.loop fn e n ps as_ bo st pend) g w') where
 Y:=rfl
 size:=h.size
 keep:=λb hb hl=>by
  refine h.others b hb λe=>?_;rcases h.old with ⟨_,hp⟩|⟨⟨s0,p0,ho⟩,hp⟩
  ·omega
  ·exact hl id (.inr (.inl ⟨_,_,_,_,_,_,_,_,ho⟩)) (by rw [e,hp])
 live:=λid' hid hlt=>by
  by_cases e:id'=id
  ·subst e;simp only [St.lput,Z7] at hlt ⊢;rcases h.old with ⟨_,hp⟩|⟨⟨s0,p0,ho⟩,hp⟩
   ·omega
   ·exact ⟨id',.inr (.inl ⟨_,_,_,_,_,_,_,_,ho⟩),hp.symm⟩
  ·simp only [St.lput,ZH _ _ e] at hlt ⊢;exact ⟨id',(Z0T e).1 hid,rfl⟩
 blk:=λid' el' cells lv hb=>by
  have e:id'≠id:=by
   rintro rfl;rcases h.old with ⟨ho,_⟩|⟨⟨s0,p0,ho⟩,_⟩<;>rw [ho] at hb<;>cases hb
  refine ⟨cells,lv,by simp [St.lput,Heap.put,ZH _ _ e,hb],YA _,λ_=>⟨by simp [St.lput,ZH _ _ e],λcs e' fr hcs=>?_⟩⟩
  refine ⟨cs,fr,?_,rfl⟩;rw [<- hcs];exact h.others _ (Array.getElem?_eq_some_iff.1 hcs).1 (h.blk_ne hi hcs)
 loop:=λid' fn' e1 n' ps' as' bo' st' pend' hl=>by
  by_cases e':id'=id
  ·subst e';rcases h.old with ⟨ho,_⟩|⟨⟨s0,p0,ho⟩,hp⟩
   ·rw [ho] at hl;cases hl
   ·rw [ho] at hl;cases hl;exact ⟨⟨st,pend,by simp [St.lput,Heap.put,Z7]⟩,by simp [St.lput,Z7,hp]⟩
  ·exact ⟨⟨st',pend',by simp [St.lput,Heap.put,ZH _ _ e',hl]⟩,by simp [St.lput,ZH _ _ e']⟩
 map:=λid' kv hl=>by
  have e':id'≠id:=by
   rintro rfl;rcases h.old with ⟨ho,_⟩|⟨⟨s0,p0,ho⟩,hp⟩<;>rw [ho] at hl<;>cases hl
  exact ⟨⟨kv,by simp [St.lput,Heap.put,ZH _ _ e',hl]⟩,by simp [St.lput,ZH _ _ e']⟩
 os:=h.os
 tape:=h.tape
 output:=h.output
theorem LPut.inv (hi:Inv s) (h:LPut s id fn e n ps as_ bo st pend g w'):Inv (s.lput id (.loop fn e n ps as_ bo st pend) g w'):=by
 have hev:=h.ev hi
 have hsame:(s.lput id (.loop fn e n ps as_ bo st pend) g w').G.ent id = .loop fn e n ps as_ bo st pend:=by simp [St.lput,Heap.put,Z7]
 refine ⟨λid'=>?_,λid1 id2 h1 h2 he=>?_,λid' hl=>?_,λid' el' c hb=>?_,λid' hn=>?_,λb hb=>YL (hi.Ylt b hb) h.size⟩
 ·by_cases e1:id'=id
  ·subst e1;rw [hsame];obtain ⟨f,t,d,q1,q2,q3⟩:=h.here;exact ⟨f,t,d,by simp only [St.lput,Z7];exact q1,q2,λk=>hev.pvr (q3 k)⟩
  ·have h1:(s.lput id (.loop fn e n ps as_ bo st pend) g w').G.ent id'=s.G.ent id':=by simp [St.lput,Heap.put,ZH _ _ e1]
   have h2:(s.lput id (.loop fn e n ps as_ bo st pend) g w').D id'=s.D id':=by simp [St.lput,ZH _ _ e1]
   rw [h1];have he:=hi.ent id'
   cases hent:s.G.ent id' with
   | none=>trivial
   | blk el' c lv=>
    rw [hent] at he;obtain ⟨cs,fr,q1,q2,q3,q4⟩:=he;refine ⟨cs,fr,?_,q2,q3,λj x hj=>?_⟩
    ·rw [h2,<- q1];exact h.others _ (Array.getElem?_eq_some_iff.1 q1).1 (h.blk_ne hi q1)
    ·obtain ⟨u,hu,hp,ho⟩:=q4 j x hj;exact ⟨u,hu,hev.pvr hp,ho⟩
   | loop fn' e' n' ps' as' bo' st' pend'=>
    rw [hent] at he;obtain ⟨fn2,tmps,defers,q1,q2,q3⟩:=he;refine ⟨fn2,tmps,defers,?_,q2,λt=>hev.pvr (q3 t)⟩;rw [h2,<- q1];exact h.others _ (Array.getElem?_eq_some_iff.1 q1).1 (h.ne hi e1 (.inr (.inl ⟨_,_,_,_,_,_,_,_,hent⟩)))
   | map kv=>
    rw [hent] at he;show w'.heap[_]? = _;rw [h2,<- he];exact h.others _ (Array.getElem?_eq_some_iff.1 he).1 (h.ne hi e1 (.inr (.inr ⟨_,hent⟩)))
 ·by_cases e1:id1=id<;>by_cases e2:id2=id
  ·rw [e1,e2]
  ·subst e1;simp only [St.lput,Z7,ZH _ _ e2] at he;exact absurd he.symm (h.ne hi e2 ((Z0T e2).1 h2))
  ·subst e2;simp only [St.lput,Z7,ZH _ _ e1] at he;exact absurd he (h.ne hi e1 ((Z0T e1).1 h1))
  ·simp only [St.lput,ZH _ _ e1,ZH _ _ e2] at he;exact hi.inj id1 id2 ((Z0T e1).1 h1) ((Z0T e2).1 h2) he
 ·by_cases e1:id'=id
  ·subst e1;simp only [St.lput,Z7];intro hy;rcases h.old with ⟨_,hp⟩|⟨⟨s0,p0,ho⟩,hp⟩
   ·have:=hi.Ylt _ hy;omega
   ·rw [hp] at hy;exact hi.notY id' (.inr (.inl ⟨_,_,_,_,_,_,_,_,ho⟩)) hy
  ·simp only [St.lput,ZH _ _ e1];exact hi.notY id' ((Z0T e1).1 hl)
 ·by_cases e1:id'=id
  ·subst e1;rw [hsame] at hb;cases hb
  ·have hb':s.G.ent id' = .blk el' c false:=by simpa [St.lput,Heap.put,ZH _ _ e1] using hb
   have:(s.lput id (.loop fn e n ps as_ bo st pend) g w').D id'=s.D id':=by simp [St.lput,ZH _ _ e1]
   rw [this];exact (hev.imm _ (hi.fz id' el' c hb')).1
 ·have hne:id'≠id:=by
   intro e;subst e;have:=h.nx;simp only [St.lput,Heap.put] at hn;omega
  simp only [St.lput,Heap.put,ZH _ _ hne];exact hi.nx id' hn
end
def St.push (s:St) (o:Obj):St:=⟨s.w.alloc o,s.Y,s.G,s.D⟩
theorem Z1Y {w:World} {o:Obj} {b:Nat} (h:b<w.heap.size):(w.alloc o).heap[b]? = w.heap[b]?:=by
 show (w.heap.push o)[b]? = _
 rw [Array.getElem?_push]
 rw [if_neg (by omega)]
theorem Z31 (w:World) (o:Obj):(w.alloc o).heap.size=w.heap.size+1:=by
 show (w.heap.push o).size=_
 simp
theorem push_ev (s:St) (o:Obj):Ev s (s.push o) where
 Y:=rfl
 size:=by rw [St.push,Z31];exact Y0X _
 keep:=λb hb _=>Z1Y hb
 live:=λid h _=>⟨id,h,rfl⟩
 blk:=λid el cells lv h=>⟨cells,lv,h,YA _,λ_=>⟨rfl,λcs e fr h=>⟨cs,fr,by rw [<- h];exact Z1Y (Array.getElem?_eq_some_iff.1 h).1,rfl⟩⟩⟩
 loop:=λid fn e n ps as_ bo st pend h=>⟨⟨st,pend,h⟩,rfl⟩
 map:=λid kv h=>⟨⟨kv,h⟩,rfl⟩
 os:=rfl
 tape:=rfl
 output:=rfl
theorem push_inv {s:St} (hi:Inv s) (o:Obj):Inv (s.push o):=by
 have hev:=push_ev s o
 refine ⟨λid=>?_,hi.inj,hi.notY,λid el c h=>(hev.imm _ (hi.fz id el c h)).1,hi.nx,λb hb=>YL (hi.Ylt b hb) hev.size⟩
 have he:=hi.ent id
 change EntOK _ id (s.G.ent id)
 cases hent:s.G.ent id with
 | none=>trivial
 | blk el' c lv=>
  rw [hent] at he;obtain ⟨cs,fr,q1,q2,q3,q4⟩:=he;exact ⟨cs,fr,(Z1Y (Array.getElem?_eq_some_iff.1 q1).1).trans q1,q2,q3,λj x hj=>by
   obtain ⟨u,hu,hp,ho⟩:=q4 j x hj;exact ⟨u,hu,hev.pvr hp,ho⟩⟩
 | loop fn' e' n' ps' as' bo' st' pend'=>
  rw [hent] at he;obtain ⟨fn2,tmps,defers,q1,q2,q3⟩:=he;exact ⟨fn2,tmps,defers,(Z1Y (Array.getElem?_eq_some_iff.1 q1).1).trans q1,q2,λt=>hev.pvr (q3 t)⟩
 | map kv=>rw [hent] at he;exact (Z1Y (Array.getElem?_eq_some_iff.1 he).1).trans he
def mark (r:Nat):Deferred:={ target:=.collected r,args:=#[] }
def Marks (s:St) (n0:Nat) (ms:List Nat):Prop:=ms.Nodup/\∀ r∈ms,n0<=r/\s.imm r/\s.w.heap[r]? = some (.deferred (some []))
theorem Marks.nil (s:St) (n0:Nat):Marks s n0 []:=⟨List.nodup_nil,λr h=>by cases h⟩
theorem Marks.mono {s s':St} {n0:Nat} {ms:List Nat} (h:Marks s n0 ms) (hev:Ev s s'):Marks s' n0 ms :=
 ⟨h.1,λr hr=>by
  obtain ⟨h1,h2,h3⟩:=h.2 r hr;obtain ⟨h4,h5⟩:=hev.imm r h2;exact ⟨h1,h4,h5.trans h3⟩⟩
theorem Marks.append {s s':St} {n0:Nat} {ms ms':List Nat} (h:Marks s n0 ms) (hev:Ev s s') (h':Marks s' s.w.heap.size ms') (hle:n0<=s.w.heap.size):Marks s' n0 (ms'++ms):=by
 have h1:=h.mono hev
 refine ⟨List.nodup_append.2 ⟨h'.1,h.1,λr hr r' hr' e=>?_⟩,λr hr=>?_⟩
 ·subst e;have:=(h'.2 r hr).1;have:=(h.2 r hr').2.1.1;omega
 ·rcases List.mem_append.1 hr with hr|hr
  ·obtain ⟨q1,q2⟩:=h'.2 r hr;exact ⟨YT hle q1,q2⟩
  ·exact h1.2 r hr
structure Aft (s:St) (n:Nat) (a:Act) (e':Env) (G':Heap) (a':Act) (w':World) (D':Nat->Nat):Prop where
 inv:Inv ⟨w',s.Y,G',D'⟩
 ev:Ev s ⟨w',s.Y,G',D'⟩
 env:EnvR ⟨w',s.Y,G',D'⟩ n e' a'
 marks:∃ ms,a'.defers=ms.map mark++a.defers/\Marks ⟨w',s.Y,G',D'⟩ s.w.heap.size ms
theorem Then.aft {s:St} {n:Nat} {a:Act} {e':Env} {G':Heap} {a':Act} {w':World} {D':Nat->Nat} (h:Then s n a e' G' a' w' D'):Aft s n a e' G' a' w' D' :=
 ⟨h.inv,h.ev,h.env,[],by simp [h.defers],Marks.nil _ _⟩
theorem Aft.refl {s:St} {n:Nat} {e:Env} {a:Act} (hi:Inv s) (he:EnvR s n e a):Aft s n a e s.G a s.w s.D :=
 ⟨hi,Ev.refl s,he,[],rfl,Marks.nil _ _⟩
theorem Aft.trans {s:St} {n:Nat} {a:Act} {e1 e2:Env} {G1 G2:Heap} {a1 a2:Act} {w1 w2:World} {D1 D2:Nat->Nat}
  (h:Aft s n a e1 G1 a1 w1 D1) (h':Aft ⟨w1,s.Y,G1,D1⟩ n a1 e2 G2 a2 w2 D2):Aft s n a e2 G2 a2 w2 D2:=by
 obtain ⟨ms,q1,q2⟩:=h.marks
 obtain ⟨ms',q1',q2'⟩:=h'.marks
 exact ⟨h'.inv,h.ev.trans h'.ev,h'.env,ms'++ms,by rw [q1',q1,Y03,Yq],q2.append h'.ev q2' h.ev.size⟩
def Ex.out:Ex->Exit
 | .normal=>.normal
 | .exit id=>.exit id
 | .ret=>.ret
def RdOK (rd:Option Nat) (s:St):Prop:=∀ l,rd=some l->∃ id,s.G.Z5b id/\s.D id=l
theorem RdOK.mono {rd:Option Nat} {s s':St} (h:RdOK rd s) (hev:Ev s s'):RdOK rd s':=λl hl=>by
 obtain ⟨id,⟨fn,e,n,ps,as_,bo,st,pend,h1⟩,h2⟩:=h l hl
 obtain ⟨⟨st',pend',h3⟩,h4⟩:=hev.loop _ _ _ _ _ _ _ _ _ h1
 exact ⟨id,⟨_,_,_,_,_,_,_,_,h3⟩,h4.trans h2⟩
variable {X:Ctx} {n:Nat}
theorem enter_ok {s:St} {e:Env} {a:Act} {rd:Option Nat} (hi:Inv s) (he:EnvR s n e a) (hrd:RdOK rd s) (fn fn0:FuncId) (ps:Array Nat) (as_ bo:Code) :
  ∃ l ms w1 D1,(Instr.enterLoop fn0 a.tmps ps as_ bo rd).run X.P s.w = .ok (l,ms.map mark) w1 /\
   Inv ⟨w1,s.Y,⟨s.G.nx+1,upd s.G.ent s.G.nx (.loop fn e n ps.toList as_ bo .ready none)⟩,D1⟩ /\
   Ev s ⟨w1,s.Y,⟨s.G.nx+1,upd s.G.ent s.G.nx (.loop fn e n ps.toList as_ bo .ready none)⟩,D1⟩/\D1 s.G.nx=l /\
   Marks ⟨w1,s.Y,⟨s.G.nx+1,upd s.G.ent s.G.nx (.loop fn e n ps.toList as_ bo .ready none)⟩,D1⟩ s.w.heap.size ms:=by
 cases rd with
 | none=>
  have ev0:Ev s ((s.push (.deferred (some []))).more 1):=(push_ev _ _).trans (Z0z _);have i0:=Z3s (push_inv hi (.deferred (some []))) 1;have hp:LPut ((s.push (.deferred (some []))).more 1) s.G.nx fn e n ps.toList as_ bo .ready none (s.w.heap.size+1)
    ((s.w.alloc (.deferred (some []))).alloc (.loop { state:=.ready,pending:=none,fn:=fn0,tmps:=a.tmps,params:=ps,assign:=as_,body:=bo,defers:=s.w.heap.size })):=by
   refine ⟨.inl ⟨hi.nx _ (YA _),by simp only [St.push,St.more,Z31];exact YA _⟩,by simp only [St.push,St.more,Z31];omega,λb hb _=>Z1Y hb,⟨fn0,a.tmps,s.w.heap.size,?_,he.1,λt=>ev0.pvr (he.2 t)⟩,Nat.lt_succ_self _,rfl,rfl,rfl⟩
   have:=World.alloc_heap_new (s.w.alloc (.deferred (some []))) (.loop { state:=.ready,pending:=none,fn:=fn0,tmps:=a.tmps,params:=ps,assign:=as_,body:=bo,defers:=s.w.heap.size });rw [Z31] at this;exact this
  have hev:=hp.ev i0;refine ⟨s.w.heap.size+1,[s.w.heap.size],_,_,run_enterLoop_outer _ _ _ _ _,hp.inv i0,ev0.trans hev,Z7 _ _ _,?_⟩;have m0:Marks ((s.push (.deferred (some []))).more 1) s.w.heap.size [s.w.heap.size]:=by
   refine ⟨by simp,λr hr=>?_⟩
   simp only [YZ] at hr;subst hr;refine ⟨YA _,⟨by simp only [St.push,St.more,Z31];omega,λhy=>?_,λid hl hh=>?_⟩,World.alloc_heap_new _ _⟩
   ·exact Nat.lt_irrefl _ (hi.Ylt _ hy)
   ·have:=hl.lt hi;simp only [St.more,St.push] at hh;omega
  exact m0.mono hev
 | some l0=>
  obtain ⟨id0,⟨f1,e1,n1,ps1,as1,bo1,st1,pend1,h1⟩,h2⟩:=hrd l0 rfl;have h3:=hi.ent id0;rw [h1] at h3;obtain ⟨f2,tm,df,h4,_⟩:=h3;rw [h2] at h4;have i0:=Z3s hi 1;have hp:LPut (s.more 1) s.G.nx fn e n ps.toList as_ bo .ready none s.w.heap.size
    (s.w.alloc (.loop { state:=.ready,pending:=none,fn:=fn0,tmps:=a.tmps,params:=ps,assign:=as_,body:=bo,defers:=df })):=by
   refine ⟨.inl ⟨hi.nx _ (YA _),YA _⟩,by simp only [St.more,Z31];omega,λb hb _=>Z1Y hb,⟨fn0,a.tmps,df,World.alloc_heap_new _ _,he.1,λt=>(Z0z 1).pvr (he.2 t)⟩,Nat.lt_succ_self _,rfl,rfl,rfl⟩
  have hev:=hp.ev i0;refine ⟨s.w.heap.size,[],_,_,?_,hp.inv i0,(Z0z 1).trans hev,Z7 _ _ _,Marks.nil _ _⟩;unfold Instr.enterLoop;simp only [Sem.run_bind,run_getLoop h4,run_newObj_alloc,Result.andThen,Sem.run_pure,List.map_nil]
theorem range_resolve {a:Act} {g:Operand} {l:Nat} {f:FuncId} {fv cv:Array Value} (h:a.eval g = .func (.func f) fv cv) :
  resolve a.eval (rangeCall g l) 0=pure { target:=.fn (.func f) cv,args:=fv ++ #[.func (.yield l) #[] #[]] }:=by
 simp only [resolve,rangeCall,h,Deferred.ofValue]
 simp [Act.eval]
variable {Q:Exit->Act->World->Prop} {m:Nat}
theorem range_ok {call:ZR} (hcall:Z1h X call) {s:St} {e:Env} {a:Act} {rd:Option Nat} {fn:FuncId} {lf:Nat} {g:Operand} {ps:Array Nat} {as_ bo:Code} {x:Ex} {e':Env} {G':Heap}
  (hG:Zp X s) (hi:Inv s) (he:EnvR s n e a) (hrd:RdOK rd s) (h:Z5 X call lf n fn (.rangeFunc g ps as_ bo) e s.G=some (x,e',G'))
  (hQ:∀ a' w' D',Aft s n a e' G' a' w' D'->Q x.out a' w'):(Code.rangeFunc g ps as_ bo).wpIn (Fw rd) m X.P Q a s.w:=by
 refine wpIn_rangeFunc λfn0 _=>?_
 obtain ⟨l,ms,w1,D1,hent,i1,ev1,hl,hms⟩:=enter_ok (X:=X) hi he hrd fn fn0 ps as_ bo
 simp only [Z5] at h
 split at h
 ·rename_i gv hg;have hgv:=Z6 hG he hg;have key:∀ f (first caps:List PV) fv cv,a.eval g = .func (.func f) fv cv->PVRs s first fv->PVRs s caps cv ->
    (∃ r G2,call (.fn f) (first++[PV.yld s.G.nx]++caps) ⟨s.G.nx+1,upd s.G.ent s.G.nx (.loop fn e n ps.toList as_ bo .ready none)⟩=some (r,G2) /\
     ∃ fn' e2 n' ps' as' bo' st pend,G2.ent s.G.nx = .loop fn' e2 n' ps' as' bo' st pend/\st ≠ .busy/\jumpD pend=some x/\e'=e/\G'=G2.put s.G.nx (.loop fn' e2 n' ps' as' bo' .exhausted pend)) ->
    ∃ (l:Nat) (mark:List Deferred) (w₁:World) (d:Deferred) (w₁':World) (f:FuncId) (args:Array Value) (w₂:World),
     (Instr.enterLoop fn0 a.tmps ps as_ bo (Fw rd).round).run X.P s.w = .ok (l,mark) w₁ /\
     (resolve a.eval (rangeCall g l) 0).run X.P w₁ = .ok d w₁' /\
     (∀ f',Target.leads X.P w₁' d.target d.args=some f'->(Fw rd).fn f') /\
     (invoke d.target d.args).run X.P w₁' = .ok (.enter f args) w₂ /\
     ((Fw rd).depth.isSome=true->1<=m) /\
     CallsIn (Fw rd) (m-1) X.P f args w₂ (rangePost (Fw rd) m X.P l Q { a with defers:=mark++a.defers }):=by
   rintro f first caps fv cv hev hf hc ⟨r,G2,hr,fn',e2,n',ps',as',bo',st,pend,hen,hst,hj,rfl,rfl⟩;have hy:PVR ⟨w1,s.Y,⟨s.G.nx+1,upd s.G.ent s.G.nx (.loop fn e' n ps.toList as_ bo .ready none)⟩,D1⟩ (.yld s.G.nx) (.func (.yield l) #[] #[]):=by
    rw [<- hl];exact .yld (s:=⟨w1,s.Y,⟨s.G.nx+1,upd s.G.ent s.G.nx (.loop fn e' n ps.toList as_ bo .ready none)⟩,D1⟩) ⟨_,_,_,_,_,_,_,_,Z7 _ _ _⟩
   have hys:PVRs ⟨w1,s.Y,⟨s.G.nx+1,upd s.G.ent s.G.nx (.loop fn e' n ps.toList as_ bo .ready none)⟩,D1⟩ [.yld s.G.nx] #[.func (.yield l) #[] #[]] :=
    ⟨rfl,λi y hi=>by
     cases i with
     | zero=>simp at hi;subst hi;exact hy
     | succ i=>simp at hi⟩
   obtain ⟨h1,h2⟩:=hcall (.fn f) _ r G2 ⟨w1,s.Y,_,D1⟩ hr i1 (hG.mono ev1) (fv ++ #[.func (.yield l) #[] #[]]++cv) (Z2W (Z2W (hf.mono ev1) hys) (hc.mono ev1));refine ⟨l,ms.map mark,w1,_,w1,f,fv ++ #[.func (.yield l) #[] #[]]++cv,w1,hent,by rw [range_resolve hev,Sem.run_pure],λ_ _=>trivial,?_,Z5Z rd m,?_⟩
   ·simp only [invoke];exact h1
   ·refine (Calls.wide rd h2 (m-1)).mono λen w3 hh=>?_;obtain ⟨v,rfl,D2,i3,ev3,_⟩:=hh;have e3:=i3.ent s.G.nx;rw [hen] at e3;obtain ⟨fn2,tm,df,q1,q2,q3⟩:=e3;obtain ⟨⟨_,_,hlo⟩,hD⟩:=ev3.loop s.G.nx _ _ _ _ _ _ _ _ (Z7 _ _ _);simp only at hlo hD;rw [hen] at hlo
    injection hlo with a1 a2 a3 a4 a5 a6 a7 a8
    have hl2:D2 s.G.nx=l:=hD.trans hl;simp only [hl2] at q1;have hp:LPut ⟨w3,s.Y,G2,D2⟩ s.G.nx fn' e2 n' ps' as' bo' .exhausted pend l (w3.putObj l (.loop { state:=.exhausted,pending:=pend,fn:=fn2,tmps:=tm,params:=ps'.toArray,assign:=as',body:=bo',defers:=df })):=by
     refine ⟨.inr ⟨⟨st,pend,hen⟩,hl2.symm⟩,by simp,λb _ hb=>World.putObj_heap_other hb,⟨fn2,tm,df,World.putObj_heap_same (Array.getElem?_eq_some_iff.1 q1).1,q2,q3⟩,?_,rfl,rfl,rfl⟩
     rcases YF s.G.nx G2.nx with h|h
     ·exact h
     ·have:=i3.nx _ h;simp only at this;rw [hen] at this;cases this
    have i4:=hp.inv i3;have ev4:=(ev1.trans ev3).trans (hp.ev i3);have hQ':=hQ { a with defers:=ms.map mark++a.defers } _ _ ⟨i4,ev4,(he.mono ev4),ms,rfl,(hms.mono ev3).mono (hp.ev i3)⟩
    refine ⟨pend,_,run_endLoop q1 hst,?_⟩;cases pend with
    | none=>
     simp only [jumpD,Y5] at hj;subst hj;exact hQ'
    | some c=>
     cases c<;>simp only [jumpD,Y5] at hj<;>(try (cases hj;done))
     ·subst hj;exact wpIn_exit hQ'
     ·subst hj;exact wpIn_ret hQ'
  have fin:∀ (r:Option (PV×Heap)),(match r with
    | some (_,G2)=>
     match G2.ent s.G.nx with
     | .loop fn' e' n' ps' as' bo' st pend=>
      if st=LoopState.busy then none else
      match jumpD pend with
      | some x=>some (x,e,G2.put s.G.nx (.loop fn' e' n' ps' as' bo' .exhausted pend))
      | none=>none
     | _=>none
    | none=>none)=some (x,e',G')->∃ q G2,r=some (q,G2)/\∃ fn' e2 n' ps' as' bo' st pend,G2.ent s.G.nx = .loop fn' e2 n' ps' as' bo' st pend/\st ≠ .busy/\jumpD pend=some x/\e'=e/\G'=G2.put s.G.nx (.loop fn' e2 n' ps' as' bo' .exhausted pend):=by
   intro r hr
   split at hr
   ·rename_i q G2
    split at hr
    ·rename_i fn' e2 n' ps' as' bo' st pend hen
     split at hr
     ·cases hr
     ·rename_i hst
      split at hr
      ·rename_i x' hj;simp only [Y5,Y4] at hr;obtain ⟨rfl,rfl,rfl⟩:=hr;exact ⟨q,G2,rfl,fn',e2,n',ps',as',bo',st,pend,hen,hst,hj,rfl,rfl⟩
      ·cases hr
    ·cases hr
   ·cases hr
  cases gv with
  | v y=>
   cases y with
   | fn f=>
    have hfv:=fn_inv hgv;obtain ⟨q,G2,h1,h2⟩:=fin _ h;exact key f [] [] #[] #[] hfv ⟨rfl,λi y hi=>by simp at hi⟩ ⟨rfl,λi y hi=>by simp at hi⟩ ⟨q,G2,h1,h2⟩
   | _=>simp at h
  | clo f first caps=>
   obtain ⟨fv,cv,hfv,hf1,hf2⟩:=clo_inv hgv;obtain ⟨q,G2,h1,h2⟩:=fin _ h;exact key f first caps fv cv hfv hf1 hf2 ⟨q,G2,h1,h2⟩
  | _=>simp at h
 ·cases h
theorem Z1E {P:Program} {b:Frame} {a:Act} {k:List Item} {cs:List Frame} {w:World} {c:Code}:step P (lone (b.atR a (.code (.scope c)::k)) cs w) = .next (lone (b.atR a (.code c :: .inScope c::k)) cs w) :=
 step_lone_go (by simp [stepG,stepG.exec,Frame.atR])
theorem stepR_inScope {P:Program} {b:Frame} {a:Act} {k:List Item} {cs:List Frame} {w:World} {c:Code}:step P (lone (b.atR a (.inScope c::k)) cs w) = .next (lone (b.atR a k) cs w) :=
 step_lone_go (by simp [stepG,stepG.exec,Frame.atR])
theorem wpIn_scope {F:Fence} {n:Nat} {P:Program} {Q:Exit->Act->World->Prop} {a:Act} {w:World} {c:Code} (h:c.wpIn F n P (λe a w=>(∀ l,e ≠ .goto l)/\Q e a w) a w):(Code.scope c).wpIn F n P Q a w:=by
 intro b k cs hro hb hr
 have h0:(lone (b.atR a (.code (.scope c)::k)) cs w).fenced P F:=fenced_calm hb hr rfl
 obtain ⟨e,a₁,w₁,hq,harr⟩:=h b (.inScope c::k) cs hro hb hr
 cases e with
 | normal=>exact ⟨.normal,a₁,w₁,hq.2,.head h0 Z1E (StepsIn.trans harr (.one (fenced_calm hb hr rfl) stepR_inScope))⟩
 | exit id=>
  have hx:exitTo id (.inScope c::k)=exitTo id k:=by simp [exitTo]
  exact ⟨.exit id,a₁,w₁,hq.2,λk' hk=>.head h0 Z1E (harr.1 k' (by rw [hx];exact hk)),
   λhr' hk=>let ⟨k₁,h1,h2⟩:=harr.2 hr' (by rw [hx];exact hk);⟨k₁,h1,.head h0 Z1E h2⟩⟩
 | goto l=>exact absurd rfl (hq.1 l)
 | ret=>exact ⟨_,a₁,w₁,hq.2,.of_steps (.one h0 Z1E) harr⟩
 | panic ch=>exact ⟨_,a₁,w₁,hq.2,.of_steps (.one h0 Z1E) harr⟩
 | outgrown=>exact ⟨_,a₁,w₁,hq.2,.of_steps (.one h0 Z1E) harr⟩
theorem code_ok {call:ZR} (hm:X.P.follows .mixedOrders=true) (hcall:Z1h X call) (htame:Z08 call) (hcp:CallPure X call) {lf:Nat} {fn:FuncId} {rd:Option Nat}:∀ (c:Code) {Q:Exit->Act->World->Prop} {s:St} {e:Env} {a:Act} {x:Ex} {e':Env} {G':Heap},
  Zp X s->Inv s->EnvR s n e a->RdOK rd s->Z5 X call lf n fn c e s.G=some (x,e',G')->(∀ a' w' D',Aft s n a e' G' a' w' D'->Q x.out a' w')->c.wpIn (Fw rd) m X.P Q a s.w:=by
 intro c
 induction c with
 | label l=>
  intro Q s e a x e' G' hG hi he hrd h hQ;simp only [Z5,Y5,Y4] at h;obtain ⟨rfl,rfl,rfl⟩:=h;exact wpIn_label (hQ a s.w s.D (Aft.refl hi he))
 | scope c ih=>
  intro Q s e a x e' G' hG hi he hrd h hQ;simp only [Z5] at h;refine wpIn_scope ?_;exact ih hG hi he hrd h λa' w' D' ht=>⟨λl=>by cases x<;>simp [Ex.out],hQ a' w' D' ht⟩
 | skip=>
  intro Q s e a x e' G' hG hi he hrd h hQ;simp only [Z5,Y5,Y4] at h;obtain ⟨rfl,rfl,rfl⟩:=h;exact wpIn_skip (hQ a s.w s.D (Aft.refl hi he))
 | region id ops draw=>
  intro Q s e a x e' G' hG hi he hrd h hQ;simp only [Z5] at h
  split at h
  ·rename_i hd;subst hd
   split at h
   ·rename_i hok;simp only [Y0,Y4] at h;obtain ⟨⟨e1,G1⟩,h1,rfl,rfl,rfl⟩:=h;exact draw_ok hm hcall htame hcp hok hG hi he h1 λa' w' D' ht=>hQ a' w' D' ht.aft
   ·cases h
  ·rename_i hd;simp only [Y06] at hd;subst hd;simp only [Y0,Y4] at h;obtain ⟨⟨e1,G1⟩,h1,rfl,rfl,rfl⟩:=h;exact region_ok hcall htame hG hi he h1 λa' w' D' ht=>hQ a' w' D' ht.aft
 | seq c1 c2 ih1 ih2=>
  intro Q s e a x e' G' hG hi he hrd h hQ;simp only [Z5] at h;refine wpIn_seq ?_
  split at h
  ·rename_i e1 G1 h1;refine ih1 hG hi he hrd h1 λa1 w1 D1 ht=>?_;exact ih2 (s:=⟨w1,s.Y,G1,D1⟩) (hG.mono ht.ev) ht.inv ht.env (hrd.mono ht.ev) h λa' w' D' ht'=>hQ a' w' D' (ht.trans ht')
  ·rename_i hn;refine ih1 hG hi he hrd h λa1 w1 D1 ht=>?_
   cases x with
   | normal=>exact absurd h (hn _ _)
   | exit id=>exact hQ _ _ _ ht
   | ret=>exact hQ _ _ _ ht
 | cond c c1 c2 ih1 ih2=>
  intro Q s e a x e' G' hG hi he hrd h hQ;simp only [Z5] at h
  split at h
  ·rename_i hc;exact wpIn_cond_true (Z0s (Z6 hG he hc)) (ih1 hG hi he hrd h hQ)
  ·rename_i hc;exact wpIn_cond_false (Z0s (Z6 hG he hc)) (ih2 hG hi he hrd h hQ)
  ·cases h
 | block id c ih=>
  intro Q s e a x e' G' hG hi he hrd h hQ;simp only [Z5] at h;refine wpIn_block ?_
  split at h
  ·rename_i id' e1 G1 h1;refine ih hG hi he hrd h1 λa1 w1 D1 ht=>?_;simp only [Ex.out,Exit.inBlock]
   split at h
   ·rename_i hid;rw [if_pos hid];simp only [Y5,Y4] at h;obtain ⟨rfl,rfl,rfl⟩:=h;exact hQ _ _ _ ht
   ·rename_i hid;rw [if_neg hid];simp only [Y5,Y4] at h;obtain ⟨rfl,rfl,rfl⟩:=h;exact hQ _ _ _ ht
  ·rename_i hn;refine ih hG hi he hrd h λa1 w1 D1 ht=>?_
   cases x with
   | normal=>exact hQ _ _ _ ht
   | exit id=>exact absurd h (hn _ _ _)
   | ret=>exact hQ _ _ _ ht
 | loop c ih=>
  intro Q s e a x e' G' hG hi he hrd h hQ;simp only [Z5] at h;refine wpIn_loop_rounds lf ?_;have key:∀ (k:Nat) {s:St} {e:Env} {a:Act},Zp X s->Inv s->EnvR s n e a->RdOK rd s->Z0O (Z5 X call lf n fn c) k e s.G=some (x,e',G') ->
    (∀ a' w' D',Aft s n a e' G' a' w' D'->Q x.out a' w')->Code.roundsIn (Fw rd) m X.P c Q k a s.w:=by
   intro k
   induction k with
   | zero=>intro s e a _ _ _ _ h;simp [Z0O] at h
   | succ k ihk=>
    intro s e a hG hi he hrd h hQ;simp only [Z0O] at h;rw [roundsIn_succ]
    split at h
    ·rename_i e1 G1 h1;refine ih hG hi he hrd h1 λa1 w1 D1 ht=>?_;exact ihk (s:=⟨w1,s.Y,G1,D1⟩) (hG.mono ht.ev) ht.inv ht.env (hrd.mono ht.ev) h λa' w' D' ht'=>hQ a' w' D' (ht.trans ht')
    ·rename_i hn;refine ih hG hi he hrd h λa1 w1 D1 ht=>?_
     cases x with
     | normal=>exact absurd h (hn _ _)
     | exit id=>exact hQ _ _ _ ht
     | ret=>exact hQ _ _ _ ht
  exact key lf hG hi he hrd h hQ
 | exit id=>
  intro Q s e a x e' G' hG hi he hrd h hQ;simp only [Z5,Y5,Y4] at h;obtain ⟨rfl,rfl,rfl⟩:=h;exact wpIn_exit (hQ a s.w s.D (Aft.refl hi he))
 | ret=>
  intro Q s e a x e' G' hG hi he hrd h hQ;simp only [Z5,Y5,Y4] at h;obtain ⟨rfl,rfl,rfl⟩:=h;exact wpIn_ret (hQ a s.w s.D (Aft.refl hi he))
 | rangeFunc g ps as_ bo _ _=>
  intro Q s e a x e' G' hG hi he hrd h hQ;exact range_ok hcall hG hi he hrd h hQ
 | _=>
  intro Q s e a x e' G' hG hi he hrd h hQ;simp [Z5] at h
end Go.Dn

namespace Go.Dn
open Go
variable {X:Ctx} {s:St} {n:Nat}
def shut (w:World):List Nat->World
 | []=>w
 | r::rs=>shut (w.putObj r (.deferred none)) rs
theorem Z4k:∀ (ms:List Nat) (w:World),(shut w ms).heap.size=w.heap.size/\(∀ b,b∉ms->(shut w ms).heap[b]? = w.heap[b]?)/\(shut w ms).os=w.os/\(shut w ms).tape=w.tape/\(shut w ms).output=w.output
 | [],w=>⟨rfl,λ_ _=>rfl,rfl,rfl,rfl⟩
 | r::rs,w=>by
  obtain ⟨h1,h2,h3,h4,h5⟩:=Z4k rs (w.putObj r (.deferred none));refine ⟨by simp only [shut];rw [h1];simp,λb hb=>?_,h3,h4,h5⟩
  simp only [List.mem_cons,not_or] at hb;simp only [shut];rw [h2 b hb.2];exact World.putObj_heap_other hb.1
theorem Z3S {F:Fence} {m:Nat} {P:Program} {fn:Func} {tmps:Array Value} {R:Ending->World->Prop}:∀ (ms:List Nat) (w:World),ms.Nodup->(∀ r∈ms,w.heap[r]? = some (.deferred (some []))) ->
  (∃ v,(results fn tmps).run P (shut w ms) = .ok v (shut w ms)/\R (.returned v) (shut w ms))->LeavesInM F m P fn tmps R (ms.map mark) .returning w
 | [],w,_,_,h=>h
 | r::rs,w,hn,hd,h=>by
  obtain ⟨hr,hrs⟩:=List.nodup_cons.1 hn;refine ⟨by simp,.inl ⟨r,_,rfl,run_takeDeferred (hd r (by simp)),?_⟩⟩
  refine Z3S rs _ hrs (λr' hr'=>?_) h;rw [World.putObj_heap_other (λe:r'=r=>hr (e▸hr'))];exact hd r' (by simp [hr'])
section shut
variable {ms:List Nat} {w2:World}
theorem shut_cell (hkeep:∀ b,b∉ms->w2.heap[b]? = s.w.heap[b]?) (hms:∀ r∈ms,s.w.heap[r]? = some (.deferred (some []))) {b i:Nat} {u:Value} (h:s.w.cell? ⟨b,i,none⟩=some u):w2.cell? ⟨b,i,none⟩=some u:=by
 have:b∉ms:=λhb=>by
  simp only [World.cell?,hms b hb] at h;cases h
 rw [<- h]
 simp only [World.cell?,hkeep b this]
theorem Z6c (hkeep:∀ b,b∉ms->w2.heap[b]? = s.w.heap[b]?) (hms:∀ r∈ms,s.w.heap[r]? = some (.deferred (some []))) {b:Nat} {cs:Array Value} {el:TypeId} {fr:Nat×Nat} (h:s.w.heap[b]? = some (.cells cs el fr)):w2.heap[b]? = some (.cells cs el fr):=by
 have:b∉ms:=λhb=>by
  rw [hms b hb] at h;cases h
 rw [hkeep b this,h]
theorem shut_imm (hsz:w2.heap.size=s.w.heap.size) (b:Nat):s.imm b↔(⟨w2,s.Y,s.G,s.D⟩ : St).imm b:=by
 simp only [St.imm,Imm,hsz]
theorem shut_fvr (hsz:w2.heap.size=s.w.heap.size) (hkeep:∀ b,b∉ms->w2.heap[b]? = s.w.heap[b]?) (hms:∀ r∈ms,s.w.heap[r]? = some (.deferred (some []))) {x:FV} {v:Value} (h:FVR s.w s.imm x v):FVR w2 (⟨w2,s.Y,s.G,s.D⟩ : St).imm x v:=by
 induction h with
 | bool b=>exact .bool b
 | int k n=>exact .int k n
 | str s=>exact .str s
 | nilp=>exact .nilp
 | nilf=>exact .nilf
 | fn f=>exact .fn f
 | nil=>exact .nil
 | empty a cap=>exact .empty a cap
 | sl xs b off cap sz vals himm hcap hsz' hcell hval ih=>
  exact .sl xs b off cap sz vals ((shut_imm hsz b).1 himm) hcap hsz' (λi j hi hj=>shut_cell hkeep hms (hcell i j hi hj)) ih
theorem Z59 (hsz:w2.heap.size=s.w.heap.size) (hkeep:∀ b,b∉ms->w2.heap[b]? = s.w.heap[b]?) (hms:∀ r∈ms,s.w.heap[r]? = some (.deferred (some []))) {x:PV} {v:Value} (h:PVR s x v):PVR ⟨w2,s.Y,s.G,s.D⟩ x v:=by
 induction h with
 | undef=>exact .undef
 | v hx=>exact .v (shut_fvr hsz hkeep hms hx)
 | nils=>exact .nils
 | full hx=>exact .full (shut_fvr hsz hkeep hms hx)
 | buf hb hv ho hk=>
  refine .buf (s:=⟨w2,s.Y,s.G,s.D⟩) hb hv ho λe=>?_;obtain ⟨cap,cs,el,fr,q1,q2,q3,q4⟩:=hk e;exact ⟨cap,cs,el,fr,q1,q2,Z6c hkeep hms q3,q4⟩
 | ptr hb hv ho hk=>exact .ptr (s:=⟨w2,s.Y,s.G,s.D⟩) hb hv ho hk
 | fptr himm hcell=>
  refine .fptr ((shut_imm hsz _).1 himm) λj x hj=>?_;obtain ⟨u,h1,h2⟩:=hcell j x hj;exact ⟨u,shut_cell hkeep hms h1,shut_fvr hsz hkeep hms h2⟩
 | clo hf hc _ _ ih1 ih2=>exact .clo hf hc ih1 ih2
 | yld hl=>exact .yld (s:=⟨w2,s.Y,s.G,s.D⟩) hl
 | agg hs _ ho ih=>exact .agg hs ih ho
 | tup hs _ ih=>exact .tup hs ih
 | mp hm=>exact .mp (s:=⟨w2,s.Y,s.G,s.D⟩) hm
 | view hb hv ho hk=>exact .view (s:=⟨w2,s.Y,s.G,s.D⟩) hb hv ho hk
theorem shut_inv (hsz:w2.heap.size=s.w.heap.size) (hkeep:∀ b,b∉ms->w2.heap[b]? = s.w.heap[b]?) (hms:∀ r∈ms,s.w.heap[r]? = some (.deferred (some []))) (hi:Inv s):Inv ⟨w2,s.Y,s.G,s.D⟩:=by
 refine ⟨λid=>?_,hi.inj,hi.notY,λid el c h=>(shut_imm hsz _).1 (hi.fz id el c h),hi.nx,λb hb=>by simp only [hsz];exact hi.Ylt b hb⟩
 have he:=hi.ent id
 simp only
 cases hent:s.G.ent id with
 | none=>trivial
 | blk el' c lv=>
  rw [hent] at he;obtain ⟨cs,fr,q1,q2,q3,q4⟩:=he;exact ⟨cs,fr,Z6c hkeep hms q1,q2,q3,λj x hj=>by
   obtain ⟨u,hu,hp,ho⟩:=q4 j x hj;exact ⟨u,hu,Z59 hsz hkeep hms hp,ho⟩⟩
 | loop fn' e' n' ps' as' bo' st' pend'=>
  rw [hent] at he;obtain ⟨fn2,tmps,defers,q1,q2,q3⟩:=he;have:s.D id∉ms:=λhb=>by
   rw [hms _ hb] at q1;cases q1
  exact ⟨fn2,tmps,defers,(hkeep _ this).trans q1,q2,λt=>Z59 hsz hkeep hms (q3 t)⟩
 | map kv=>
  rw [hent] at he;have:s.D id∉ms:=λhb=>by
   have q1:s.w.heap[s.D id]? = some (mobj kv):=he;rw [hms _ hb] at q1;cases q1
  exact (hkeep _ this).trans he
end shut
theorem shut_ev {s0:St} {ms:List Nat} {w2:World} (hev:Ev s0 s) (hsz:w2.heap.size=s.w.heap.size) (hkeep:∀ b,b∉ms->w2.heap[b]? = s.w.heap[b]?) (hms:∀ r∈ms,s0.w.heap.size<=r)
  (ho:w2.os=s.w.os) (ht:w2.tape=s.w.tape) (hp:w2.output=s.w.output):Ev s0 ⟨w2,s.Y,s.G,s.D⟩ where
 Y:=hev.Y
 size:=by simp only [hsz];exact hev.size
 keep:=λb hb hl=>by
  rw [<- hev.keep b hb hl];exact hkeep b λhm=>by have:=hms b hm;omega
 live:=hev.live
 blk:=λid el cells lv h=>by
  obtain ⟨c',l',e',hle,hk⟩:=hev.blk id el cells lv h;refine ⟨c',l',e',hle,λheq=>?_⟩;obtain ⟨h1,h2⟩:=hk heq;refine ⟨h1,λcs e fr hc=>?_⟩;obtain ⟨cs',fr',h3,h4⟩:=h2 cs e fr hc;exact ⟨cs',fr',by rw [<- h3];exact hkeep _ λhm=>by have:=hms _ hm;have:=(Array.getElem?_eq_some_iff.1 hc).1;omega,h4⟩
 loop:=hev.loop
 map:=hev.map
 os:=ho.trans hev.os
 tape:=ht.trans hev.tape
 output:=hp.trans hev.output
theorem grow_ev {w':World} (hi:Inv s) (hsz:s.w.heap.size<=w'.heap.size) (hk:∀ b,b<s.w.heap.size->w'.heap[b]? = s.w.heap[b]?) (ho:w'.os=s.w.os) (ht:w'.tape=s.w.tape) (hp:w'.output=s.w.output) :
  Ev s ⟨w',s.Y,s.G,s.D⟩/\Inv ⟨w',s.Y,s.G,s.D⟩:=by
 have hev:Ev s ⟨w',s.Y,s.G,s.D⟩ :=
  { Y:=rfl,size:=hsz,keep:=λb hb _=>hk b hb,live:=λid h _=>⟨id,h,rfl⟩,blk:=λid el cells lv h=>⟨cells,lv,h,YA _,λ_=>⟨rfl,λcs e fr h=>⟨cs,fr,by rw [<- h];exact hk _ (Array.getElem?_eq_some_iff.1 h).1,rfl⟩⟩⟩,loop:=λid fn e n ps as_ bo st pend h=>⟨⟨st,pend,h⟩,rfl⟩,map:=λid kv h=>⟨⟨kv,h⟩,rfl⟩,os:=ho,tape:=ht,output:=hp }
 refine ⟨hev,λid=>?_,hi.inj,hi.notY,λid el c h=>(hev.imm _ (hi.fz id el c h)).1,hi.nx,λb hb=>YL (hi.Ylt b hb) hsz⟩
 have he:=hi.ent id
 simp only
 cases hent:s.G.ent id with
 | none=>trivial
 | blk el' c lv=>
  rw [hent] at he;obtain ⟨cs,fr,q1,q2,q3,q4⟩:=he;exact ⟨cs,fr,(hk _ (Array.getElem?_eq_some_iff.1 q1).1).trans q1,q2,q3,λj x hj=>by
   obtain ⟨u,hu,hp,ho⟩:=q4 j x hj;exact ⟨u,hu,hev.pvr hp,ho⟩⟩
 | loop fn' e' n' ps' as' bo' st' pend'=>
  rw [hent] at he;obtain ⟨fn2,tmps,defers,q1,q2,q3⟩:=he;exact ⟨fn2,tmps,defers,(hk _ (Array.getElem?_eq_some_iff.1 q1).1).trans q1,q2,λt=>hev.pvr (q3 t)⟩
 | map kv=>rw [hent] at he;exact (hk _ (Array.getElem?_eq_some_iff.1 he).1).trans he
def Z40:PV->Bool
 | .undef | .v _ | .fptr _=>true
 | .agg cs=>cs.all PV.isV
 | _=>false
def flat:PV->Bool
 | .tup xs=>xs.all Z40
 | x=>Z40 x
theorem Z1C {s':St} {x:PV} {v:Value} (hm:∀ b,s.imm b->s'.imm b/\s'.w.heap[b]? = s.w.heap[b]?) (hf:Z40 x=true) (h:PVR s x v):PVR s' x v:=by
 cases h with
 | undef=>exact .undef
 | v hx=>exact .v (hx.mono hm)
 | fptr himm hcell=>
  refine .fptr (hm _ himm).1 λj x hj=>?_;obtain ⟨u,h1,h2⟩:=hcell j x hj;refine ⟨u,?_,h2.mono hm⟩;rw [<- h1];simp only [World.cell?,(hm _ himm).2]
 | @agg cells cs hs h ho=>
  refine .agg hs (λi x hi=>?_) ho;simp only [Z40,YC] at hf;have h1:=hf x (Y6 hi);have h2:=h i x hi;cases x<;>simp [PV.isV] at h1
  generalize cs.getD i Go.undef=u at h2;cases h2 with
  | v hx=>exact .v (hx.mono hm)
 | _=>simp [Z40] at hf
theorem flat_pvr {s':St} {x:PV} {v:Value} (hm:∀ b,s.imm b->s'.imm b/\s'.w.heap[b]? = s.w.heap[b]?) (hf:flat x=true) (h:PVR s x v):PVR s' x v:=by
 cases x with
 | tup xs=>
  cases h with
  | tup hs h=>
   refine .tup hs λi x hi=>?_;simp only [flat,YC] at hf;exact Z1C hm (hf x (Y6 hi)) (h i x hi)
 | _=>exact Z1C hm hf h
theorem Z5T {x:PV} (h:x.pure=true):flat x=true/\Z40 x=true:=by
 cases x<;>simp [PV.pure] at h<;>simp [flat,Z40]
 ·exact h
theorem vs_all (xs:List FV):(vs xs).all PV.isV=true:=by
 rw [YC]
 intro x hx
 simp only [vs,List.mem_map] at hx
 obtain ⟨y,_,rfl⟩:=hx
 rfl
theorem Z62 {G G':Heap} {x y:PV} (h:Z07 G x=some (y,G')):Z40 y=true/\∀ ts,y ≠ .tup ts:=by
 have one:∀ {x:PV},(ZN 6 G x).bind (λr=>some (PV.v r.1,r.2))=some (y,G')->Z40 y=true/\∀ ts,y ≠ .tup ts:=by
  intro x h;simp only [Y2,Y5,Y4] at h;obtain ⟨⟨z,G1⟩,h1,rfl,rfl⟩:=h;exact ⟨rfl,by simp⟩
 unfold Z07 at h
 split at h
 ·simp only [Y2,Y5,Y4] at h;obtain ⟨⟨z,G1⟩,h1,rfl,rfl⟩:=h;exact ⟨vs_all _,by simp⟩
 ·cases h;exact ⟨rfl,by simp⟩
 ·cases h;exact ⟨rfl,by simp⟩
 ·cases h
 ·exact one h
theorem Z4r:∀ {xs ys:List PV} {G G':Heap},Z0M G xs=some (ys,G')->ys.all Z40=true
 | [],ys,G,G',h=>by simp [Z0M] at h;rw [h.1];rfl
 | x::xs,ys,G,G',h=>by
  simp only [Z0M,Y2,Y5,Y4] at h;obtain ⟨⟨y,G1⟩,h1,⟨zs,G2⟩,h2,rfl,rfl⟩:=h;simp only [Ye,Y8];exact ⟨(Z62 h1).1,Z4r h2⟩
theorem Z63 {G G':Heap} {x y:PV} (h:Z05 G x=some (y,G')):flat y=true:=by
 unfold Z05 at h
 split at h
 ·simp only [Y2,Y5,Y4] at h;obtain ⟨⟨z,G1⟩,h1,rfl,rfl⟩:=h;exact Z4r h1
 ·obtain ⟨h1,h2⟩:=Z62 h;cases y<;>first|exact h1|exact absurd rfl (h2 _)
theorem expCell_v {G:Heap} {y:FV}:ZN 6 G (.v y)=some (y,G):=rfl
theorem Z4T {G:Heap}:∀ (cs:List PV),cs.all PV.isV=true->∃ ys,ZT (ZN 6) G cs=some (ys,G)/\vs ys=cs
 | [],_=>⟨[],rfl,rfl⟩
 | x::cs,h=>by
  simp only [Ye,Y8] at h;obtain ⟨ys,h1,h2⟩:=Z4T (G:=G) cs h.2;cases x<;>simp [PV.isV] at h;rename_i y;exact ⟨y::ys,by simp only [ZT,expCell_v,Y1,h1],by simp only [vs,Yz] at h2 ⊢;rw [h2]⟩
theorem Z3W {G:Heap} {x:PV} (h:x.pure=true):Z1e G x=some (x,G):=by
 cases x<;>simp [PV.pure] at h
 ·rfl
 ·rfl
 ·rename_i cs;obtain ⟨ys,h1,h2⟩:=Z4T (G:=G) cs (by simpa using h)
  simp [Z1e,Z07,Z4B,h1,h2]
theorem Z0c {G:Heap}:∀ {xs:List PV},xs.all PV.pure=true->Zz G xs=some (xs,G)
 | [],_=>rfl
 | x::xs,h=>by
  simp only [Ye,Y8] at h;simp [Zz,Z3W h.1,Z0c h.2]
theorem pure_calm {xs:List PV} (h:xs.all PV.pure=true):xs.all PV.calm=true:=by
 rw [YC] at h ⊢
 intro x hx
 have:=h x hx
 cases x<;>simp only [PV.pure,PV.calm,YB] at this ⊢
 rw [YC] at this ⊢
 intro y hy
 have:=this y hy
 cases y<;>simp only [PV.isV,PV.isN,YB] at this ⊢
theorem Z4X:∀ (cs:List PV),cs.all PV.isN=true->∃ ys,∀ G,ZT (ZN 6) G cs=some (ys,G)
 | [],_=>⟨[],λ_=>rfl⟩
 | x::cs,h=>by
  simp only [Ye,Y8] at h;obtain ⟨ys,h1⟩:=Z4X cs h.2;have h0:∃ y,∀ G,ZN 6 G x=some (y,G):=by
   cases x<;>simp only [PV.isN,YB,false_and] at h
   ·exact ⟨_,λ_=>rfl⟩
   ·exact ⟨_,λ_=>rfl⟩
   ·exact ⟨_,λ_=>rfl⟩
  obtain ⟨y,hy⟩:=h0;exact ⟨y::ys,λG=>by simp only [ZT,hy,Y1,h1]⟩
theorem expArg_calm {x:PV} (h:x.calm=true):∃ y:PV,y.pure=true/\∀ G,Z1e G x=some (y,G):=by
 have one:∀ {y:FV},(∀ G,Z1e G x=some (.v y,G))->∃ y:PV,y.pure=true/\∀ G,Z1e G x=some (y,G):=λ{y} h=>⟨.v y,rfl,h⟩
 cases x with
 | v y=>exact one (y:=y) λ_=>rfl
 | nils=>exact one (y:=.sl []) λ_=>rfl
 | full xs=>exact one (y:=.sl xs) λ_=>rfl
 | fptr cs=>exact ⟨.fptr cs,rfl,λ_=>rfl⟩
 | agg cs=>
  obtain ⟨ys,h1⟩:=Z4X cs h;refine ⟨.agg (vs ys),?_,λG=>?_⟩
  ·simp [PV.pure,vs,PV.isV]
  ·simp only [Z1e,Z07,Z4B,h1,Y1]
 | _=>simp only [PV.calm,YB] at h
theorem Z5M:∀ {xs:List PV},xs.all PV.calm=true->∃ ys:List PV,ys.all PV.pure=true/\∀ G,Zz G xs=some (ys,G)
 | [],_=>⟨[],rfl,λ_=>rfl⟩
 | x::xs,h=>by
  simp only [Ye,Y8] at h;obtain ⟨y,h1,h2⟩:=expArg_calm h.1;obtain ⟨ys,h3,h4⟩:=Z5M h.2;exact ⟨y::ys,by simp only [Ye,h1,h3,Yi],λG=>by simp only [Zz,h2,Y1,h4]⟩
theorem Z6l (hi:Inv s) {fn:Func} {e:Env} {a:Act} (he:EnvR s n e a) {xs:List PV} (h:ZY X.P e s.G fn.results.toList=some xs) :
  ∃ v,(results fn a.tmps).run X.P s.w = .ok v s.w/\PVR s (Z0J xs) v:=by
 let q:ResultVar->Sem Value:=fun
  | .tmp t=>pure (a.tmps.getD t undef)
  | .cell ad t=>do loadVar t (<- asAddr (a.tmps.getD ad undef))
 have key:∀ (rs:List ResultVar) (xs:List PV),ZY X.P e s.G rs=some xs->∃ us:List Value,(rs.mapM q).run X.P s.w = .ok us s.w/\us.length=xs.length/\∀ (i:Nat) (x:PV),xs[i]? = some x->PVR s x ((us[i]?).getD Go.undef):=by
  intro rs
  induction rs with
  | nil=>intro xs h;simp [ZY] at h;subst h;exact ⟨[],by simp,rfl,by simp⟩
  | cons r rs ih=>
   intro xs h;have one:∃ x ys u,(q r).run X.P s.w = .ok u s.w/\PVR s x u/\ZY X.P e s.G rs=some ys/\xs=x::ys:=by
    cases r with
    | tmp t=>
     simp only [ZY,Y0] at h;obtain ⟨ys,h1,rfl⟩:=h;exact ⟨e t,ys,_,by simp [q],he.2 t,h1,rfl⟩
    | cell ad t=>
     simp only [ZY,Y2,Y0] at h;obtain ⟨x,h1,ys,h2,rfl⟩:=h;obtain ⟨addr,u,h3,h4,h5⟩:=load_ok (P:=X.P) hi (he.2 ad) h1;refine ⟨x,ys,u,?_,h5,h2,rfl⟩;show ((do loadVar t (<- asAddr (a.tmps.getD ad undef)):Sem Value)).run X.P s.w=_;rw [h3];simp [asAddr,h4]
   obtain ⟨x,ys,u,h1,h2,h3,rfl⟩:=one;obtain ⟨us,h4,h5,h6⟩:=ih ys h3;refine ⟨u::us,by simp [List.mapM_cons,h1,h4],by simp [h5],λi y hi=>?_⟩
   cases i with
   | zero=>simp at hi;subst hi;exact h2
   | succ i=>exact h6 i y (by simpa using hi)
 obtain ⟨us,h1,h2,h3⟩:=key _ _ h
 have hr:(results fn a.tmps).run X.P s.w = .ok (if h:us.toArray.size=1 then us.toArray[0] else .tuple us.toArray) s.w:=by
  have:results fn a.tmps=(do let vs <- fn.results.mapM q;pure (if h:vs.size=1 then vs[0] else .tuple vs)):=rfl;rw [this,Array.mapM_eq_mapM_toList];simp [Sem.run_bind,h1]
 refine ⟨_,hr,?_⟩
 cases xs with
 | nil=>
  have:us=[]:=List.length_eq_zero_iff.1 h2;subst this;exact .tup rfl (λi x hi=>by simp at hi)
 | cons x xs=>
  cases xs with
  | nil=>
   cases us with
   | nil=>simp at h2
   | cons u us=>
    have:us=[]:=List.length_eq_zero_iff.1 (by simpa using h2)
    subst this;have:=h3 0 x (by simp)
    simpa [Z0J] using this
  | cons y ys=>
   have hne:us.toArray.size≠1:=by simp [h2]
   rw [dif_neg hne];refine .tup (by simp [h2]) λi z hz=>?_
   have:=h3 i z hz
   simpa [Y7] using this
theorem env_of {args:List PV} {vs:Array Value} {k:Nat} (h:PVRs s args vs):EnvR s (max k args.length) (Z2t args) { tmps:=vs++Array.replicate (k-vs.size) undef,defers:=[] }:=by
 refine ⟨by simp [h.1];omega,λt=>?_⟩
 unfold Z2t
 rw [Y07]
 simp only [Y7,Array.getElem?_append]
 by_cases ht:t<args.length
 ·have h1:=h.2 t args[t] (by simp [ht])
  have ht':t<vs.size:=by rw [<- h.1];exact ht
  simpa [ht,ht',Y7] using h1
 ·have ht':¬ t<vs.size:=by rw [<- h.1];exact ht
  rw [if_neg ht',Yl (by omega)]
  simp only [Option.getD_none]
  by_cases h2:t-vs.size<k-vs.size
  ·simp [h2];exact .undef
  ·simp [h2];exact .undef
def PrimSound (X:Ctx):Prop:=∀ f p,X.prim f=some p->∀ (call:ZR),Z1h X call->Z08 call->∀ (s:St) (args:List PV) (vs:Array Value) (r:PV) (G':Heap),Inv s->Zp X s->PVRs s args vs->Z3o X.P call s.G p args=some (r,G') ->
 (callFunc f vs).run X.P s.w = .ok (.enter f vs) s.w/\Calls X.P f vs s.w λen w'=>∃ v,en = .returned v/\Post s r G' v w'
theorem body_ok {call : ZR} (hpr : PrimSound X) (hm : X.P.follows .mixedOrders = true) (hnm : ∀ (f : FuncId) (fn : Func), X.P.funcs[f]? = some fn → (fn.name == "runtime.NumGoroutine") = false)
  (hcall:Z1h X call) (htame:Z08 call) (hcp:CallPure X call) {lf:Nat} {f:FuncId} {args:List PV} {vs:Array Value} {r:PV} {G':Heap} (hi:Inv s) (hG:Zp X s) (hv:PVRs s args vs) (h:Z02 X call lf f args s.G=some (r,G')) :
  (callFunc f vs).run X.P s.w = .ok (.enter f vs) s.w/\Calls X.P f vs s.w λen w'=>∃ v,en = .returned v/\Post s r G' v w':=by
 unfold Z02 at h
 split at h
 ·rename_i p hp;exact hpr f p hp call hcall htame s args vs r G' hi hG hv h
 split at h
 ·cases h
 ·rename_i fn hfn
  split at h
  ·cases h
  ·rename_i c hb;refine ⟨?_,?_⟩
   ·have hp:(program).run X.P s.w = .ok X.P s.w:=rfl;simp only [callFunc,Sem.run_bind,hp,Result.andThen_ok,hfn,hnm f fn hfn,hb]
    simp
   ·have fin:∀ (x:Ex) (e1:Env) (G1:Heap),Z5 X call lf (max fn.ntmps args.length) f c (Z2t args) s.G=some (x,e1,G1)->(x = .normal\/x = .ret) ->
      ((ZY X.P e1 G1 fn.results.toList).map λxs=>(Z0J xs,G1))=some (r,G')->Calls X.P f vs s.w λen w'=>∃ v,en = .returned v/\Post s r G' v w':=by
     intro x e1 G1 h1 hx h2;simp only [Y0,Y4] at h2;obtain ⟨xs,h2,rfl,rfl⟩:=h2;have hw:CallsIn (Fw none) 0 X.P f vs s.w λen w'=>∃ v,en = .returned v/\Post s (Z0J xs) G1 v w':=by
      refine callsIn_of_wp_marks hfn hb trivial ?_ rfl;refine code_ok hm hcall htame hcp c hG hi (env_of hv) (λl hl=>by cases hl) h1 λa' w' D' ht=>?_
      obtain ⟨ms,hd,hmk⟩:=ht.marks;have hd:a'.defers=ms.map mark:=by simpa using hd
      have hml:∀ r∈ms,w'.heap[r]? = some (.deferred (some [])):=λr hr=>(hmk.2 r hr).2.2;obtain ⟨g1,g2,g3,g4,g5⟩:=Z4k ms w';have hi2:=shut_inv (s:=⟨w',s.Y,G1,D'⟩) g1 g2 hml ht.inv;have he2:EnvR ⟨shut w' ms,s.Y,G1,D'⟩ (max fn.ntmps args.length) e1 a':=⟨ht.env.1,λt=>Z59 (s:=⟨w',s.Y,G1,D'⟩) g1 g2 hml (ht.env.2 t)⟩;have hev2:=shut_ev ht.ev g1 g2 (λr hr=>(hmk.2 r hr).1) g3 g4 g5;obtain ⟨v,h3,h4⟩:=Z6l (X:=X) hi2 he2 h2;have hl:LeavesInM (Fw none) 0 X.P fn a'.tmps (λen w'=>∃ v,en = .returned v/\Post s (Z0J xs) G1 v w') a'.defers .returning w':=by
       rw [hd];exact Z3S ms w' hmk.1 hml ⟨v,h3,v,rfl,D',hi2,hev2,h4⟩
      rcases hx with rfl|rfl
      ·exact hl
      ·exact hl
     exact (callsIn_wide (n:=0)).1 hw
    split at h
    ·rename_i e1 G1 h1;exact fin .normal e1 G1 h1 (.inl rfl) h
    ·rename_i e1 G1 h1;exact fin .ret e1 G1 h1 (.inr rfl) h
    ·cases h
end Go.Dn

namespace Go.Dn
open Go
variable {X:Ctx} {s:St} {n:Nat}
theorem Z5t {call:ZR} (hc:Z08 call) {ops:Array Oper} {base:Nat} {p:Nat->Prop} (hp:∀ k,p k->k<base):∀ (l:List Oper) (i:Nat) (e:Env) (G:Heap) (e':Env) (G':Heap),
  base<=G.nx->(∀ k,p k->G.ent k = .none)->Z0a X call n ops base i l e G=some (e',G')->base<=G'.nx/\∀ k,p k->G'.ent k = .none
 | [],i,e,G,e',G',hb,hk,h=>by
  simp [Z0a] at h;obtain ⟨_,rfl⟩:=h;exact ⟨hb,hk⟩
 | o::l,i,e,G,e',G',hb,hk,h=>by
  simp only [Z0a,Y2] at h;obtain ⟨⟨e1,G1⟩,h1,h2⟩:=h;have ht:=Z36 hc h1;exact Z5t hc hp l (i+1) e1 G1 e' G' (YT hb ht.1) (λk hpk=>ht.2 k (by have:=hp k hpk;omega) (by have:=hp k hpk;simp;omega) (hk k hpk)) h2
theorem Z4u {call:ZR} (hc:Z08 call) {ops:Array Oper} {base:Nat} {p:Nat->Prop} (hp:∀ k,p k->k<base):∀ (l:List Oper) (i:Nat) (e:Env) (G:Heap) (e':Env) (G':Heap),
  base<=G.nx->(∀ k,p k->G.ent k = .none)->Z0E X call n ops base i l e G=some (e',G')->base<=G'.nx/\∀ k,p k->G'.ent k = .none
 | [],i,e,G,e',G',hb,hk,h=>by
  simp [Z0E] at h;obtain ⟨_,rfl⟩:=h;exact ⟨hb,hk⟩
 | o::l,i,e,G,e',G',hb,hk,h=>by
  simp only [Z0E,Y2] at h;obtain ⟨⟨e1,G1⟩,h1,h2⟩:=h;have ht:=Z36 hc (Z6A h1);exact Z4u hc hp l (i+1) e1 G1 e' G' (YT hb ht.1) (λk hpk=>ht.2 k (by have:=hp k hpk;omega) (by have:=hp k hpk;simp;omega) (hk k hpk)) h2
theorem Z29 {call:ZR} (hc:Z08 call) {lf:Nat} {fn:FuncId}:∀ (c:Code) (e:Env) (G:Heap) (x:Ex) (e':Env) (G':Heap),Z5 X call lf n fn c e G=some (x,e',G')->Tame G none G':=by
 intro c
 induction c with
 | skip=>intro e G x e' G' h;simp only [Z5,Y5,Y4] at h;rw [<- h.2.2];exact Tame.refl _ _
 | label l=>intro e G x e' G' h;simp only [Z5,Y5,Y4] at h;rw [<- h.2.2];exact Tame.refl _ _
 | scope c ih=>intro e G x e' G' h;simp only [Z5] at h;exact ih e G x e' G' h
 | region id ops draw=>
  intro e G x e' G' h;simp only [Z5] at h
  split at h
  ·split at h
   ·simp only [Y0,Y4] at h;obtain ⟨⟨e1,G1⟩,h1,_,_,rfl⟩:=h;obtain ⟨q1,q2⟩:=Z4u hc (p:=λk=>k<G.nx/\G.ent k = .none) (λk hk=>hk.1) ops.toList 0 e ⟨G.nx+ops.size,G.ent⟩ e1 G1 (Nat.le_add_right _ _) (λk hk=>hk.2) h1;exact ⟨q1,λk hk _ hn=>q2 k ⟨hk,hn⟩⟩
   ·cases h
  ·simp only [Y0,Y4] at h;obtain ⟨⟨e1,G1⟩,h1,_,_,rfl⟩:=h;obtain ⟨q1,q2⟩:=Z5t hc (p:=λk=>k<G.nx/\G.ent k = .none) (λk hk=>hk.1) ops.toList 0 e ⟨G.nx+ops.size,G.ent⟩ e1 G1 (Nat.le_add_right _ _) (λk hk=>hk.2) h1;exact ⟨q1,λk hk _ hn=>q2 k ⟨hk,hn⟩⟩
 | seq c1 c2 ih1 ih2=>
  intro e G x e' G' h;simp only [Z5] at h
  split at h
  ·rename_i h1;exact (ih1 _ _ _ _ _ h1).trans (ih2 _ _ _ _ _ h)
  ·exact ih1 _ _ _ _ _ h
 | cond c c1 c2 ih1 ih2=>
  intro e G x e' G' h;simp only [Z5] at h
  split at h
  ·exact ih1 _ _ _ _ _ h
  ·exact ih2 _ _ _ _ _ h
  ·cases h
 | block id c ih=>
  intro e G x e' G' h;simp only [Z5] at h
  split at h
  ·rename_i h1;have:=ih _ _ _ _ _ h1
   split at h<;>simp only [Y5,Y4] at h<;>rw [<- h.2.2]<;>exact this
  ·exact ih _ _ _ _ _ h
 | loop c ih=>
  intro e G x e' G' h;simp only [Z5] at h;have key:∀ (k:Nat) (e:Env) (G:Heap),Z0O (Z5 X call lf n fn c) k e G=some (x,e',G')->Tame G none G':=by
   intro k
   induction k with
   | zero=>intro e G h;simp [Z0O] at h
   | succ k ihk=>
    intro e G h;simp only [Z0O] at h
    split at h
    ·rename_i h1;exact (ih _ _ _ _ _ h1).trans (ihk _ _ h)
    ·exact ih _ _ _ _ _ h
  exact key lf e G h
 | exit id=>intro e G x e' G' h;simp only [Z5,Y5,Y4] at h;rw [<- h.2.2];exact Tame.refl _ _
 | ret=>intro e G x e' G' h;simp only [Z5,Y5,Y4] at h;rw [<- h.2.2];exact Tame.refl _ _
 | rangeFunc g ps as_ bo _ _=>
  intro e G x e' G' h;simp only [Z5] at h
  split at h
  ·rename_i gv hg;have fin:∀ (r:Option (PV×Heap)),(∀ q G2,r=some (q,G2)->Tame ⟨G.nx+1,upd G.ent G.nx (.loop fn e n ps.toList as_ bo .ready none)⟩ none G2)->(match r with
    | some (_,G2)=>
     match G2.ent G.nx with
     | .loop fn' e' n' ps' as' bo' st pend=>
      if st=LoopState.busy then none else
      match jumpD pend with
      | some x=>some (x,e,G2.put G.nx (.loop fn' e' n' ps' as' bo' .exhausted pend))
      | none=>none
     | _=>none
    | none=>none)=some (x,e',G')->Tame G none G':=by
    intro r ht hr
    split at hr
    ·rename_i q G2;have ht:=ht q G2 rfl
     split at hr
     ·split at hr
      ·cases hr
      ·split at hr
       ·simp only [Y5,Y4] at hr;obtain ⟨_,_,rfl⟩:=hr;refine ⟨YT (Y0X _) ht.1,λk hk _ hn=>?_⟩;simp only [Heap.put,ZH _ _ (Nat.ne_of_lt hk)];exact ht.2 k (Nat.lt_succ_of_lt hk) (by simp) (by simp only [ZH _ _ (Nat.ne_of_lt hk)];exact hn)
       ·cases hr
     ·cases hr
    ·cases hr
   cases gv with
   | v y=>
    cases y with
    | fn f=>exact fin _ (λq G2 hq=>hc _ _ _ _ _ hq) h
    | _=>simp at h
   | clo f first caps=>exact fin _ (λq G2 hq=>hc _ _ _ _ _ hq) h
   | _=>simp at h
  ·cases h
 | _=>
  intro e G x e' G' h;simp [Z5] at h
theorem primD_tame {P:Program} {call:ZR} (hc:Z08 call) {G G':Heap} {p:Prim} {args:List PV} {r:PV} (h:Z3o P call G p args=some (r,G')):Tame G none G':=by
 unfold Z3o at h
 split at h
 ·split at h
  ·split at h
   ·cases h;exact Tame.refl _ _
   ·cases h
  ·cases h
 ·split at h
  ·simp only [Y0,Y4] at h;obtain ⟨_,h1,_,rfl⟩:=h;exact Z1w h1
  ·cases h
 ·split at h
  ·split at h
   ·split at h
    ·simp only [Y2] at h;obtain ⟨G1,h1,⟨r1,G2⟩,h2,h⟩:=h
     split at h
     ·simp only [Y2,Y0,Y4] at h;obtain ⟨G3,h3,G4,h4,_,rfl⟩:=h;exact (Z1w h1).trans ((hc _ _ _ _ _ h2).trans ((Z1w h3).trans (Z1w h4)))
     ·cases h
    ·cases h
   ·cases h;exact Tame.refl _ _
  ·cases h
 ·cases h
theorem Z1f {call:ZR} (hc:Z08 call) {lf:Nat} {f:FuncId} {args:List PV} {G G':Heap} {r:PV} (h:Z02 X call lf f args G=some (r,G')):Tame G none G':=by
 unfold Z02 at h
 split at h
 ·exact primD_tame hc h
 split at h
 ·cases h
 ·split at h
  ·cases h
  ·split at h
   ·rename_i h1;simp only [Y0,Y4] at h;obtain ⟨_,_,_,rfl⟩:=h;exact Z29 hc _ _ _ _ _ _ h1
   ·rename_i h1;simp only [Y0,Y4] at h;obtain ⟨_,_,_,rfl⟩:=h;exact Z29 hc _ _ _ _ _ _ h1
   ·cases h
theorem join_tame {G ρ:Heap} (h:Tame (G.only []) none ρ):Tame G none (G.join ρ) :=
 ⟨h.1,λk hk _ hn=>by rw [Z2k (h.2 k hk (by simp) rfl)];exact hn⟩
theorem callD_fn {k:Nat} {f:FuncId} {args:List PV} {G G':Heap} {r:PV} (h:Za X (k+1) (.fn f) args G=some (r,G')) :
  (X.intr f args=some r/\args.all PV.pure=true/\G'=G) \/
  ∃ args' G1,((X.keep f=true/\args'=args/\G1=G)\/Zz G args=some (args',G1)) /\
   ((X.intr f args'=some r/\args'.all PV.pure=true/\G'=G1)\/(X.opn f=true/\(Z02 X (Za X k) k f args' G1=some (r,G')\/(args'.all PV.pure=true/\∃ ρ,Z02 X (Za X k) k f args' (G1.only [])=some (r,ρ)/\G'=G1.join ρ))) \/
    (X.opn f=false/\args'.all PV.pure=true/\(G'=G1\/(G'=G/\r.Z3k=true))/\∃ q G2 G3,Z02 X (Za X k) k f args' Heap.empty=some (q,G2)/\Z05 G2 q=some (r,G3)) \/
    (X.opn f=false/\args'.all PV.pure=false/\∃ q G2,Z02 X (Za X k) k f args' G1=some (q,G2)/\Z05 G2 q=some (r,G')) \/
    (X.opn f=false/\args'.all PV.pure=false/\Z2a G1 args'=true/\G'=G1/\∃ q G2 G3,Z02 X (Za X k) k f args' (G1.only (args'.flatMap vids))=some (q,G2)/\Z05 G2 q=some (r,G3)/\∀ id∈args'.flatMap vids,G3.ent id=G1.ent id)):=by
 simp only [Za] at h
 split at h
 ·rename_i r' hr
  split at h
  ·rename_i hp;simp only [Y5,Y4] at h;obtain ⟨rfl,rfl⟩:=h;exact .inl ⟨hr,hp,rfl⟩
  ·cases h
 ·split at h
  ·cases h
  ·rename_i args' G1 ha;refine .inr ⟨args',G1,?_,?_⟩
   ·split at ha
    ·rename_i hk;simp only [Y5,Y4] at ha;exact .inl ⟨hk,ha.1.symm,ha.2.symm⟩
    ·exact .inr ha
   ·split at h
    ·rename_i r' hr'
     split at h
     ·rename_i hp;simp only [Y5,Y4] at h;obtain ⟨rfl,rfl⟩:=h;exact .inl ⟨hr',hp,rfl⟩
     ·cases h
    refine .inr ?_
    split at h
    ·rename_i ho;refine .inl ⟨ho,?_⟩
     split at h
     ·rename_i hfp;rw [Y8] at hfp;simp only [Y0,Y4] at h;obtain ⟨⟨q,ρ⟩,h1,rfl,rfl⟩:=h;exact .inr ⟨hfp.2,ρ,h1,rfl⟩
     ·exact .inl h
    ·rename_i ho;simp only [Y06] at ho
     split at h
     ·rename_i hp;simp only [Y2,Y0,Y4] at h;obtain ⟨⟨q,G2⟩,h1,⟨r',G3⟩,h2,rfl,rfl⟩:=h;refine .inr (.inl ⟨ho,hp,?_,q,G2,G3,h1,h2⟩)
      split
      ·rename_i hc;exact .inr ⟨rfl,(Bool.and_eq_true_iff.1 hc).2⟩
      ·exact .inl rfl
     ·rename_i hp;simp only [Y06] at hp
      split at h
      ·split at h
       ·rename_i hpt;simp only [Y2] at h;obtain ⟨⟨q,G2⟩,h1,⟨r',G3⟩,h2,h3⟩:=h
        split at h3
        ·rename_i hall;simp only [Y5,Y4] at h3;obtain ⟨rfl,rfl⟩:=h3;exact .inr (.inr (.inr ⟨ho,hp,hpt,rfl,q,G2,G3,h1,h2,hall⟩))
        ·cases h3
       ·cases h
      ·simp only [Y2] at h;obtain ⟨⟨q,G2⟩,h1,h2⟩:=h;exact .inr (.inr (.inl ⟨ho,hp,q,G2,h1,h2⟩))
theorem callD_yld {k:Nat} {id:Nat} {args:List PV} {G G':Heap} {r:PV} (h:Za X (k+1) (.yld id) args G=some (r,G')) :
  ∃ fn e n ps as_ bo args' G1 e1 G2 pend x e3 G3,G.ent id = .loop fn e n ps as_ bo .ready none/\ps.length=args.length/\Zz G args=some (args',G1) /\
   Z5 X (Za X k) k n fn as_ (Z1p e n ps args') G1=some (.normal,e1,G2)/\(∃ fn' e' n' ps' as' bo',G2.ent id = .loop fn' e' n' ps' as' bo' .ready pend) /\
   Z5 X (Za X k) k n fn bo e1 (G2.put id (.loop fn e n ps as_ bo .busy pend))=some (x,e3,G3) /\
   ((x = .normal/\r = .v (.bool true)/\G'=G3.put id (.loop fn e n ps as_ bo .ready none)) \/
    (∃ t,x = .exit t/\r = .v (.bool false)/\G'=G3.put id (.loop fn e n ps as_ bo .done (some (.exit t)))) \/
    (x = .ret/\r = .v (.bool false)/\G'=G3.put id (.loop fn e n ps as_ bo .done (some .ret)))):=by
 simp only [Za] at h
 split at h
 ·rename_i fn e n ps as_ bo hen
  split at h
  ·rename_i hlen
   split at h
   ·cases h
   ·rename_i args' G1 ha
    split at h
    ·rename_i e1 G2 h1
     split at h
     ·rename_i fn' e' n' ps' as' bo' pend h2
      split at h
      ·rename_i x e3 G3 h3;refine ⟨fn,e,n,ps,as_,bo,args',G1,e1,G2,pend,x,e3,G3,hen,hlen,ha,h1,⟨_,_,_,_,_,_,h2⟩,h3,?_⟩
       split at h<;>simp only [Y5,Y4] at h
       ·exact .inl ⟨rfl,h.1.symm,h.2.symm⟩
       ·exact .inr (.inl ⟨_,rfl,h.1.symm,h.2.symm⟩)
       ·exact .inr (.inr ⟨rfl,h.1.symm,h.2.symm⟩)
      ·cases h
     ·cases h
    ·cases h
  ·cases h
 ·cases h
theorem Z3Q:∀ k,Z08 (Za X k)
 | 0=>λc args G r G' h=>by cases c<;>simp [Za] at h
 | k+1=>λc args G r G' h=>by
  have ih:=Z3Q k
  cases c with
  | fn f=>
   rcases callD_fn h with ⟨_,_,rfl⟩|⟨args',G1,h1,h2⟩
   ·exact Tame.refl _ _
   ·have t1:Tame G none G1:=by
     rcases h1 with ⟨_,_,rfl⟩|h1
     ·exact Tame.refl _ _
     ·exact Z3N h1
    rcases h2 with ⟨_,_,rfl⟩|⟨_,h2|⟨_,ρ,h2,rfl⟩⟩|⟨_,_,rfl|⟨rfl,_⟩,_⟩|⟨_,_,q,G2,h2,h3⟩|⟨_,_,_,rfl,_⟩
    ·exact t1
    ·exact t1.trans (Z1f ih h2)
    ·exact t1.trans (join_tame (Z1f ih h2))
    ·exact t1
    ·exact Tame.refl _ _
    ·exact t1.trans ((Z1f ih h2).trans (expRes_tame h3))
    ·exact t1
  | yld id=>
   obtain ⟨fn,e,n,ps,as_,bo,args',G1,e1,G2,pend,x,e3,G3,hen,_,ha,h1,_,h3,h4⟩:=callD_yld h;have t1:=(Z3N ha).trans (Z29 ih _ _ _ _ _ _ h1);have t2:=Z29 ih _ _ _ _ _ _ h3;have t3:G.nx<=G3.nx/\∀ k,k<G.nx->k≠id->G.ent k = .none->G3.ent k = .none:=by
    refine ⟨YT t1.1 t2.1,λk hk hne hn=>t2.2 k (YL hk t1.1) (by simp) ?_⟩
    simp only [Heap.put,ZH _ _ hne];exact t1.2 k hk (by simp) hn
   have t4:∀ en,Tame G none (G3.put id en):=λen=>⟨t3.1,λk hk _ hn=>by
    have hne:k≠id:=by rintro rfl;rw [hen] at hn;cases hn
    simp only [Heap.put,ZH _ _ hne];exact t3.2 k hk hne hn⟩
   rcases h4 with ⟨_,_,rfl⟩|⟨_,_,_,rfl⟩|⟨_,_,rfl⟩<;>exact t4 _
theorem callD_pure1:∀ k f args G r G',Za X k (.fn f) args G=some (r,G')->args.all PV.calm=true->X.opn f=false->X.keep f=false->G'=G/\∀ G2,Za X k (.fn f) args G2=some (r,G2)
 | 0=>λf args G r G' h=>by simp [Za] at h
 | k+1=>λf args G r G' h hp ho hk=>by
  obtain ⟨ys,hy,he⟩:=Z5M hp;simp only [Za,hk,ho,YB,if_false,he,hy,if_true] at h ⊢
  split at h
  ·split at h
   ·rename_i hpu;simp only [Y5,Y4] at h;obtain ⟨rfl,rfl⟩:=h;exact ⟨rfl,λG2=>by simp only [hpu,if_true]⟩
   ·cases h
  ·cases hin:X.intr f ys with
   | some r2=>
    simp only [hin,Y5,Y4] at h;obtain ⟨rfl,rfl⟩:=h;exact ⟨rfl,λG2=>rfl⟩
   | none=>
    simp only [hin,Y2,Y0,Y4] at h;obtain ⟨⟨q,G2⟩,h1,⟨r',G3⟩,h2,rfl,rfl⟩:=h;refine ⟨by rw [ite_self],λG4=>?_⟩
    simp only [h1,Y1,h2,Y9,ite_self]
theorem Z6u {G G2:Heap} {ids:List Nat} (h1:G2.nx=G.nx) (h2:∀ k∈ids,G2.ent k=G.ent k):G2.only ids=G.only ids:=by
 unfold Heap.only
 rw [h1]
 congr 1
 funext k
 split
 ·exact h2 k ‹_›
 ·rfl
theorem Z57 {G G2:Heap}:∀ {args:List PV},(∀ k∈args.flatMap vids,G2.ent k=G.ent k)->Z2a G2 args=Z2a G args
 | [],_=>rfl
 | x::xs,h=>by
  have ih:=Z57 (args:=xs) λk hk=>h k (by simp only [YE,Yb];exact .inr hk)
  unfold Z2a at ih ⊢;simp only [Ye,ih]
  congr 1
  cases x with
  | buf id len sz=>simp only;rw [h id (by simp [vids])]
  | _=>rfl
theorem callD_fresh (k:Nat) (f:FuncId) (args:List PV) (G:Heap) (r:PV) (G':Heap) (h:Za X k (.fn f) args G=some (r,G')) (hs:X.fresh f=true) (ho:X.opn f=true) (hk:X.keep f=false) (hp:args.all PV.pure=true):∃ ρ,G'=G.join ρ/\(∀ k,k<G.nx->ρ.ent k = .none)/\G.nx<=ρ.nx/\∀ G2,G2.nx=G.nx->Za X k (.fn f) args G2=some (r,G2.join ρ):=by
 cases k with
 | zero=>simp [Za] at h
 | succ k=>
  have he:∀ G2,Zz G2 args=some (args,G2):=λG2=>Z0c hp
  cases hin:X.intr f args with
  | some v=>
   simp only [Za,hin,hp,if_true,Y5,Y4] at h;obtain ⟨rfl,rfl⟩:=h;exact ⟨⟨G.nx,λ_=>.none⟩,rfl,λ_ _=>rfl,YA _,λG2 hn=>by simp only [Za,hin,hp,if_true,<- hn];rfl⟩
  | none=>
   simp only [Za,hin,hk,YB,if_false,he,ho,if_true,hs,hp,Yi,Y0,Y4] at h;obtain ⟨⟨q,ρ⟩,h1,rfl,rfl⟩:=h;have ht:=Z1f (Z3Q k) h1;refine ⟨ρ,rfl,λk' hk'=>ht.2 k' hk' (by simp) rfl,ht.1,λG2 hn=>?_⟩
   have h0:G2.only []=G.only []:=Z6u hn (λk hk=>by cases hk)
   simp only [Za,hin,hk,YB,if_false,he,ho,if_true,hs,hp,Yi,h0,h1,Y9]
theorem Z39:∀ k,CallPure X (Za X k):=λk=>⟨callD_pure1 k,λf args G r G' h hs hk ho hp=>(by
 cases k with
 | zero=>simp [Za] at h
 | succ k=>
  cases hin:X.intr f args with
  | some v=>
   simp only [Za,hin,hp,if_false,YB] at h;cases h
  | none=>
   simp only [Za,hin,hk,hs,ho,hp,Yi,if_true,if_false,YB] at h ⊢
   split at h
   ·rename_i hpt;simp only [Y2] at h;obtain ⟨⟨q,G2⟩,h1,⟨r',G3⟩,h2,h3⟩:=h
    split at h3
    ·rename_i hall;simp only [Y5,Y4] at h3;obtain ⟨rfl,rfl⟩:=h3;refine ⟨rfl,λG4 h4 h5=>?_⟩;rw [Z57 h5,if_pos hpt,Z6u h4 h5,h1];simp only [Y1,h2];rw [if_pos λid hid=>(hall id hid).trans (h5 id hid).symm]
    ·cases h3
   ·cases h),callD_fresh k⟩
def IntrOK (X:Ctx):Prop:=∀ f args r,X.intr f args=some r->∀ (s:St),Inv s->Zp X s->∀ vs,PVRs s args vs->args.all PV.pure=true ->
 (callFunc f vs).run X.P s.w = .ok (.enter f vs) s.w/\Calls X.P f vs s.w λen w'=>∃ v,en = .returned v/\Post s r s.G v w'
def St.under (s:St):St:=⟨s.w,λb=>s.Y b\/∃ id,Live s.G id/\s.D id=b,Heap.empty,λ_=>0⟩
theorem Z0f {id:Nat}:¬ Live Heap.empty id:=by
 rintro (⟨el,c,h⟩|⟨_,_,_,_,_,_,_,_,h⟩|⟨_,h⟩)<;>cases h
theorem under_imm {b:Nat}:s.under.imm b↔s.imm b:=by
 simp only [St.imm,Imm,St.under,not_or,not_exists,not_and]
 constructor
 ·rintro ⟨h1,⟨h2,h3⟩,_⟩;exact ⟨h1,h2,h3⟩
 ·rintro ⟨h1,h2,h3⟩;exact ⟨h1,⟨h2,h3⟩,λid h=>absurd h Z0f⟩
theorem Z5f (hi:Inv s):Inv s.under :=
 ⟨λ_=>trivial,λ_ _ h=>absurd h Z0f,λ_ h=>absurd h Z0f,λ_ _ _ h=>(by cases h),λ_ _=>rfl,
  λb hb=>hb.elim (hi.Ylt b) λ⟨_,hl,e⟩=>e▸hl.lt hi⟩
theorem Z5i {x:PV} {v:Value} (hp:x.pure=true) (h:PVR s x v):PVR s.under x v :=
 Z1C (λb hb=>⟨under_imm.2 hb,rfl⟩) (Z5T hp).2 h
theorem Z6s {xs:List PV} {vs:Array Value} (hp:xs.all PV.pure=true) (h:PVRs s xs vs):PVRs s.under xs vs :=
 ⟨h.1,λi x hi=>Z5i (by rw [YC] at hp;exact hp x (Y6 hi)) (h.2 i x hi)⟩
theorem Z6S (hG:Zp X s):Zp X s.under:=λg cells hg=>Z5i rfl (hG g cells hg)
theorem Z6K {q r:PV} {G2 G3:Heap} {v:Value} {w':World} (hi:Inv s) (h:Post s.under q G2 v w') (hr:Z05 G2 q=some (r,G3)):Post s r s.G v w':=by
 obtain ⟨D',h1,h2,h3⟩:=h
 obtain ⟨⟨e1,_⟩,e2⟩:=Z4H (s:=⟨w',s.under.Y,G2,D'⟩) hr h1 h3
 obtain ⟨g1,g2⟩:=grow_ev hi h2.size (λb hb=>h2.keep b hb λid hl=>absurd hl Z0f) h2.os h2.tape h2.output
 refine ⟨s.D,g2,g1,flat_pvr (s:=⟨w',s.under.Y,G3,D'⟩) (λb hb=>⟨?_,rfl⟩) (Z63 hr) e2⟩
 obtain ⟨q1,q2,q3⟩:=hb
 simp only [St.under,not_or,not_exists,not_and] at q2
 exact ⟨q1,q2.1,q2.2⟩
theorem noRef_fvr {w w':World} {I I':Nat->Prop} {x:FV} {v:Value} (hn:x.Z3k=true) (h:FVR w I x v):FVR w' I' x v:=by
 cases h with
 | bool b=>exact .bool b
 | int k n=>exact .int k n
 | str s=>exact .str s
 | nilp=>exact .nilp
 | nilf=>exact .nilf
 | fn f=>exact .fn f
 | nil=>exact .nil
 | empty a cap=>exact .empty a cap
 | sl xs b off cap sz vals himm hcap hsz hcell hval=>
  cases xs with
  | nil=>exact .empty _ _
  | cons y ys=>simp [FV.Z3k] at hn
theorem Z6J {s s':St} {x:PV} {v:Value} (hn:x.noRef2=true) (h:PVR s x v):PVR s' x v:=by
 cases h with
 | v h=>exact .v (noRef_fvr hn h)
 | @agg cells cs hs h ho=>
  refine .agg hs (λi x hi=>?_) ho;simp only [PV.noRef2,YC] at hn;have h1:=hn x (Y6 hi);have h2:=h i x hi;cases x<;>simp [PV.noRef1] at h1
  generalize cs.getD i Go.undef=u at h2;cases h2 with
  | v hx=>exact .v (noRef_fvr h1 hx)
 | _=>simp [PV.noRef2] at hn
theorem noRef_pvr {s s':St} {x:PV} {v:Value} (hn:x.Z3k=true) (h:PVR s x v):PVR s' x v:=by
 cases x with
 | tup xs=>
  cases h with
  | tup hs h=>
   refine .tup hs λi x hi=>?_;simp only [PV.Z3k,YC] at hn;exact Z6J (hn x (Y6 hi)) (h i x hi)
 | _=>exact Z6J hn h
theorem under_thaw {q r:PV} {G1 G2 G3:Heap} {v:Value} {w':World} (hi:Inv s) (h:Post (St.under ⟨s.w,s.Y,G1,s.D⟩) q G2 v w') (hr:Z05 G2 q=some (r,G3)) (hn:r.Z3k=true):Post s r s.G v w':=by
 obtain ⟨D',h1,h2,h3⟩:=h
 obtain ⟨_,e2⟩:=Z4H (s:=⟨w',_,G2,D'⟩) hr h1 h3
 obtain ⟨g1,g2⟩:=grow_ev hi h2.size (λb hb=>h2.keep b hb λid hl=>absurd hl Z0f) h2.os h2.tape h2.output
 exact ⟨s.D,g2,g1,noRef_pvr hn e2⟩
def St.part (s:St) (ids:List Nat):St:=⟨s.w,λb=>s.Y b\/∃ id,id∉ids/\Live s.G id/\s.D id=b,s.G.only ids,s.D⟩
theorem only_in {G:Heap} {ids:List Nat} {id:Nat} (h:id∈ids):(G.only ids).ent id=G.ent id:=if_pos h
theorem Z1I {G:Heap} {ids:List Nat} {id:Nat}:Live (G.only ids) id↔id∈ids/\Live G id:=by
 by_cases h:id∈ids<;>simp [Live,Heap.only,Heap.Z5b,Heap.isMap,h]
theorem Z5D {ids:List Nat} {b:Nat}:(s.part ids).imm b↔s.imm b:=by
 simp only [St.imm,Imm,St.part,not_or,not_exists,not_and]
 constructor
 ·rintro ⟨h1,⟨h2,h3⟩,h4⟩;refine ⟨h1,h2,λid hl=>?_⟩
  by_cases hid:id∈ids
  ·exact h4 id (Z1I.2 ⟨hid,hl⟩)
  ·exact h3 id hid hl
 ·rintro ⟨h1,h2,h3⟩;exact ⟨h1,⟨h2,λid _ hl=>h3 id hl⟩,λid hl=>h3 id (Z1I.1 hl).2⟩
def FlatIds (G:Heap) (ids:List Nat):Prop:=∀ id∈ids,∃ el cells,G.ent id = .blk el cells true/\cells.all PV.isV=true
theorem isV_flat {x:PV} (h:x.isV=true):Z40 x=true:=by
 cases x<;>simp [PV.isV] at h
 rfl
theorem part_inv {ids:List Nat} (hi:Inv s) (hf:FlatIds s.G ids):Inv (s.part ids):=by
 have live:∀ {id},id∈ids->Live s.G id:=λhid=>by
  obtain ⟨el,cells,h1,_⟩:=hf _ hid;exact .inl ⟨el,cells,h1⟩
 refine ⟨λid=>?_,λid id' h h' he=>?_,λid h=>?_,λid el c h=>?_,λid h=>?_,λb hb=>?_⟩
 ·by_cases hid:id∈ids
  ·have he:=hi.ent id;obtain ⟨el,cells,h1,h2⟩:=hf id hid;have e1:(s.part ids).G.ent id = .blk el cells true:=(only_in hid).trans h1;rw [e1];rw [h1] at he;obtain ⟨cs,fr,q1,q2,q3,q4⟩:=he;refine ⟨cs,fr,q1,q2,q3,λj x hj=>?_⟩;obtain ⟨u,hu,hp,ho⟩:=q4 j x hj;refine ⟨u,hu,Z1C (λb hb=>⟨Z5D.2 hb,rfl⟩) (isV_flat ?_) hp,ho⟩;rw [YC] at h2;exact h2 x (Y6 hj)
  ·have e1:(s.part ids).G.ent id = .none:=if_neg hid;rw [e1]
   trivial
 ·exact hi.inj id id' (Z1I.1 h).2 (Z1I.1 h').2 he
 ·obtain ⟨h1,h2⟩:=Z1I.1 h;rintro (h3|⟨id',h3,h4,h5⟩)
  ·exact hi.notY id h2 h3
  ·have:=hi.inj id' id h4 h2 h5;exact h3 (this▸h1)
 ·exfalso
  by_cases hid:id∈ids
  ·obtain ⟨el',cells,h1,_⟩:=hf id hid;have e1:(s.part ids).G.ent id = .blk el' cells true:=(only_in hid).trans h1;rw [e1] at h;cases h
  ·have e1:(s.part ids).G.ent id = .none:=if_neg hid;rw [e1] at h;cases h
 ·show (if id∈ids then s.G.ent id else .none) = .none
  split
  ·exact hi.nx id h
  ·rfl
 ·rcases hb with hb|⟨id,_,hl,rfl⟩
  ·exact hi.Ylt b hb
  ·exact hl.lt hi
theorem part_glob {ids:List Nat} (hG:Zp X s):Zp X (s.part ids):=λg cells hg=>Z1C (λb hb=>⟨Z5D.2 hb,rfl⟩) rfl (hG g cells hg)
theorem partOK_flat {G:Heap} {args:List PV} (h:Z2a G args=true):FlatIds G (args.flatMap vids):=by
 intro id hid
 obtain ⟨x,hx,hv⟩:=List.mem_flatMap.1 hid
 unfold Z2a at h
 rw [YC] at h
 have:=h x hx
 cases x with
 | buf k len sz=>
  simp only [vids,YZ] at hv;subst hv;simp only at this
  split at this
  ·exact ⟨_,_,‹_›,this⟩
  ·cases this
 | ptr _ _ _=>simp [PV.pure] at this
 | view _ _ _ _ _=>simp [PV.pure] at this
 | _=>simp [vids] at hv
theorem part_pvrs {xs:List PV} {vs:Array Value} (hp:Z2a s.G xs=true) (h:PVRs s xs vs):PVRs (s.part (xs.flatMap vids)) xs vs:=by
 refine ⟨h.1,λi x hi=>?_⟩
 have hm:=Y6 hi
 have h2:=h.2 i x hi
 unfold Z2a at hp
 rw [YC] at hp
 have h3:=hp x hm
 have fl:x.pure=true->PVR (s.part (xs.flatMap vids)) x (vs.getD i Go.undef):=λhpu=>Z1C (λb hb=>⟨Z5D.2 hb,rfl⟩) (Z5T hpu).2 h2
 cases x with
 | buf id len sz=>
  have hid:id∈xs.flatMap vids:=List.mem_flatMap.2 ⟨_,hm,by simp [vids]⟩
  have e1:(s.part (xs.flatMap vids)).G.ent id=s.G.ent id:=only_in hid;have e2:(s.part (xs.flatMap vids)).G.ver id=s.G.ver id:=by simp only [Heap.ver,e1]
  generalize vs.getD i Go.undef=u at h2;cases h2 with
  | buf hb hv ho hk=>
   refine .buf ?_ (by rw [e2];exact hv) ho (λhh=>?_)
   ·obtain ⟨el,cells,lv,h4⟩:=hb;exact ⟨el,cells,lv,e1.trans h4⟩
   ·exact hk (by rw [<- e2];exact hh)
 | nils=>
  generalize vs.getD i Go.undef=u at h2;cases h2 with
  | nils=>exact .nils
 | _=>exact fl h3
theorem PVR.join {s1 s2:St} (hw:s2.w=s1.w) (him:∀ b,s1.imm b->s2.imm b) (he:∀ id,s1.G.ent id ≠ .none->s2.G.ent id=s1.G.ent id/\s2.D id=s1.D id) {x:PV} {v:Value} (hx:PVR s1 x v):PVR s2 x v:=by
 have fv:∀ {x:FV} {v:Value},FVR s1.w s1.imm x v->FVR s2.w s2.imm x v:=λh=>h.mono λb hb=>⟨him b hb,by rw [hw]⟩
 induction hx with
 | undef=>exact .undef
 | v hx=>exact .v (fv hx)
 | nils=>exact .nils
 | full hx=>exact .full (fv hx)
 | @buf id len sz v hb hv ho hk=>
  obtain ⟨el,cells,lv,h1⟩:=hb;obtain ⟨e1,e2⟩:=he id (by rw [h1];simp)
  have e3:s2.G.ver id=s1.G.ver id:=by simp only [Heap.ver,e1]
  refine .buf ⟨el,cells,lv,e1.trans h1⟩ (by rw [e3];exact hv) ho λe=>?_
  rw [hw,e2];exact hk (by rw [<- e3];exact e)
 | @ptr id ver off v hb hv ho hk=>
  obtain ⟨el,cells,lv,h1⟩:=hb;obtain ⟨e1,e2⟩:=he id (by rw [h1];simp)
  have e3:s2.G.ver id=s1.G.ver id:=by simp only [Heap.ver,e1]
  refine .ptr ⟨el,cells,lv,e1.trans h1⟩ (by rw [e3];exact hv) ho λe=>?_
  rw [e2];exact hk (by rw [<- e3];exact e)
 | @fptr cells b off himm hcell=>
  refine .fptr (him _ himm) λj x hj=>?_;obtain ⟨u,h1,h2⟩:=hcell j x hj;exact ⟨u,by rw [hw];exact h1,fv h2⟩
 | clo hf hc _ _ ih1 ih2=>exact .clo hf hc ih1 ih2
 | @yld id hl=>
  obtain ⟨fn,e,n,ps,as_,bo,st,pend,hl⟩:=hl;obtain ⟨e1,e2⟩:=he id (by rw [hl];simp)
  rw [<- e2];exact .yld ⟨_,_,_,_,_,_,_,_,e1.trans hl⟩
 | agg hs _ ho ih=>exact .agg hs ih ho
 | tup hs _ ih=>exact .tup hs ih
 | @mp id hm=>
  obtain ⟨kv,hm⟩:=hm;obtain ⟨e1,e2⟩:=he id (by rw [hm];simp)
  rw [<- e2];exact .mp ⟨_,e1.trans hm⟩
 | @view id tot off len sz v hb hv ho hk=>
  obtain ⟨el,cells,lv,h1⟩:=hb;obtain ⟨e1,e2⟩:=he id (by rw [h1];simp)
  have e3:s2.G.ver id=s1.G.ver id:=by simp only [Heap.ver,e1]
  refine .view ⟨el,cells,lv,e1.trans h1⟩ (by rw [e3];exact hv) ho λe=>?_
  rw [e2];exact hk (by rw [<- e3];exact e)
theorem live_same {G ρ:Heap} {id:Nat} (h:ρ.ent id=G.ent id):Live ρ id↔Live G id:=by
 simp only [Live,Heap.Z5b,Heap.isMap,h]
theorem fresh_post {q:PV} {ρ:Heap} {v:Value} {w':World} (hi:Inv s) (h:Post (s.part []) q ρ v w') (hn:s.G.nx<=ρ.nx) (hρ:∀ k,k<s.G.nx->ρ.ent k = .none):Post s q (s.G.join ρ) v w':=by
 obtain ⟨D2,h1,h2,h3⟩:=h
 -- old and new
 have old:∀ {k},k<s.G.nx->(s.G.join ρ).ent k=s.G.ent k:=λhk=>Z2k (hρ _ hk)
 have new:∀ {k},¬ k<s.G.nx->(s.G.join ρ).ent k=ρ.ent k:=λ{k} hk=>by
  by_cases h0:ρ.ent k = .none
  ·rw [Z2k h0,h0,hi.nx k (by omega)]
  ·exact Z5C h0
 have lt:∀ {k},s.G.ent k ≠ .none->k<s.G.nx:=λ{k} hk=>Nat.lt_of_not_le λh=>hk (hi.nx k h)
 have ge:∀ {k},ρ.ent k ≠ .none->¬ k<s.G.nx:=λhk h=>hk (hρ _ h)
 have noL:∀ id,¬ Live (s.part []).G id:=λid hl=>by have:=(Z1I.1 hl).1;cases this
 have keep:∀ b,b<s.w.heap.size->w'.heap[b]? = s.w.heap[b]?:=λb hb=>h2.keep b hb λid hl=>absurd hl (noL id)
 have nL:∀ id,Live ρ id->¬ D2 id<s.w.heap.size:=λid hl hlt=>by
  obtain ⟨id0,hl0,_⟩:=h2.live id hl hlt;exact noL _ hl0
 let D':Nat->Nat:=λk=>if k<s.G.nx then s.D k else D2 k
 have io:∀ {k},k<s.G.nx->D' k=s.D k:=λhk=>if_pos hk
 have iN:∀ {k},¬ k<s.G.nx->D' k=D2 k:=λhk=>if_neg hk
 have lj:∀ id,Live (s.G.join ρ) id->(id<s.G.nx/\Live s.G id)\/(¬ id<s.G.nx/\Live ρ id):=λid hl=>by
  by_cases hk:id<s.G.nx
  ·exact .inl ⟨hk,(live_same (old hk)).1 hl⟩
  ·exact .inr ⟨hk,(live_same (new hk)).1 hl⟩
 have him:∀ b,St.imm ⟨w',(s.part []).Y,ρ,D2⟩ b->St.imm ⟨w',s.Y,s.G.join ρ,D'⟩ b:=λb ⟨a1,a2,a3⟩=>by
  simp only [St.part,not_or,not_exists,not_and] at a2;refine ⟨a1,a2.1,λid hl heq=>?_⟩;replace heq:D' id=b:=heq;rcases lj id hl with ⟨hk,hl⟩|⟨hk,hl⟩
  ·rw [io hk] at heq;exact a2.2 id (by simp) hl heq
  ·rw [iN hk] at heq;exact a3 id hl heq
 have tr:∀ {x:PV} {u:Value},PVR ⟨w',(s.part []).Y,ρ,D2⟩ x u->PVR ⟨w',s.Y,s.G.join ρ,D'⟩ x u:=λhx=>PVR.join (s1:=⟨w',(s.part []).Y,ρ,D2⟩) (s2:=⟨w',s.Y,s.G.join ρ,D'⟩) rfl him (λid hid=>⟨new (ge hid),iN (ge hid)⟩) hx
 have hev:Ev s ⟨w',s.Y,s.G.join ρ,D'⟩:=by
  refine ⟨rfl,h2.size,λb hb _=>keep b hb,λid hl hlt=>?_,λid el cells lv hb=>?_,λid fn e n ps as_ bo st pend hl=>?_,λid kv hm=>?_,h2.os,h2.tape,h2.output⟩
  ·rcases lj id hl with ⟨hk,hl⟩|⟨hk,hl⟩
   ·exact ⟨id,hl,(io hk).symm⟩
   ·simp only [iN hk] at hlt;exact absurd hlt (nL id hl)
  ·have hk:=lt (k:=id) (by rw [hb];simp)
   refine ⟨cells,lv,(old hk).trans hb,YA _,λ_=>⟨io hk,λcs e fr hc=>⟨cs,fr,?_,rfl⟩⟩⟩;rw [<- hc];exact keep _ (Array.getElem?_eq_some_iff.1 hc).1
  ·have hk:=lt (k:=id) (by rw [hl];simp)
   exact ⟨⟨st,pend,(old hk).trans hl⟩,io hk⟩
  ·have hk:=lt (k:=id) (by rw [hm];simp)
   exact ⟨⟨kv,(old hk).trans hm⟩,io hk⟩
 have hold:∀ {id:Nat},Live s.G id->s.D id<s.w.heap.size:=λhl=>hl.lt hi
 refine ⟨D',⟨λid=>?_,λid id' hl hl' he=>?_,λid hl=>?_,λid el cells hb=>?_,λid hid=>?_,λb hb=>?_⟩,hev,tr h3⟩
 ·show EntOK ⟨w',s.Y,s.G.join ρ,D'⟩ id ((s.G.join ρ).ent id)
  by_cases hk:id<s.G.nx
  ·rw [old hk];have he:=hi.ent id
   cases hen:s.G.ent id with
   | none=>trivial
   | blk el cells lv=>
    rw [hen] at he;obtain ⟨cs,fr,q1,q2,q3,q4⟩:=he;refine ⟨cs,fr,?_,q2,q3,λj x hj=>?_⟩
    ·show w'.heap[D' id]? = _;rw [io hk,keep _ (Array.getElem?_eq_some_iff.1 q1).1];exact q1
    ·obtain ⟨u,a,b,c⟩:=q4 j x hj;exact ⟨u,a,hev.pvr b,c⟩
   | loop fn e n ps as_ bo st pend=>
    rw [hen] at he;obtain ⟨fn',tmps,defers,q1,q2,q3⟩:=he;refine ⟨fn',tmps,defers,?_,q2,λt=>hev.pvr (q3 t)⟩;show w'.heap[D' id]? = _;rw [io hk,keep _ (Array.getElem?_eq_some_iff.1 q1).1];exact q1
   | map kv=>
    rw [hen] at he;show w'.heap[D' id]? = _;rw [io hk,keep _ (Array.getElem?_eq_some_iff.1 he).1];exact he
  ·rw [new hk];have he:=h1.ent id
   simp only at he;cases hen:ρ.ent id with
   | none=>trivial
   | blk el cells lv=>
    rw [hen] at he;obtain ⟨cs,fr,q1,q2,q3,q4⟩:=he;refine ⟨cs,fr,?_,q2,q3,λj x hj=>?_⟩
    ·show w'.heap[D' id]? = _;rw [iN hk];exact q1
    ·obtain ⟨u,a,b,c⟩:=q4 j x hj;exact ⟨u,a,tr b,c⟩
   | loop fn e n ps as_ bo st pend=>
    rw [hen] at he;obtain ⟨fn',tmps,defers,q1,q2,q3⟩:=he;refine ⟨fn',tmps,defers,?_,q2,λt=>tr (q3 t)⟩;show w'.heap[D' id]? = _;rw [iN hk];exact q1
   | map kv=>
    rw [hen] at he;show w'.heap[D' id]? = _;rw [iN hk];exact he
 ·replace he:D' id=D' id':=he;rcases lj id hl with ⟨hk,hl⟩|⟨hk,hl⟩<;>rcases lj id' hl' with ⟨hk',hl'⟩|⟨hk',hl'⟩
  ·rw [io hk,io hk'] at he;exact hi.inj id id' hl hl' he
  ·rw [io hk,iN hk'] at he;exact absurd (he▸hold hl) (nL id' hl')
  ·rw [iN hk,io hk'] at he;exact absurd (he▸hold hl') (nL id hl)
  ·rw [iN hk,iN hk'] at he;exact h1.inj id id' hl hl' he
 ·rcases lj id hl with ⟨hk,hl⟩|⟨hk,hl⟩
  ·show ¬ s.Y (D' id);rw [io hk];exact hi.notY id hl
  ·show ¬ s.Y (D' id);rw [iN hk];exact λhy=>h1.notY id hl (.inl hy)
 ·by_cases hk:id<s.G.nx
  ·have:=hev.imm _ (hi.fz id el cells ((old hk).symm.trans hb));show St.imm _ (D' id);rw [io hk];exact this.1
  ·show St.imm _ (D' id);rw [iN hk];exact him _ (h1.fz id el cells ((new hk).symm.trans hb))
 ·have:¬ id<s.G.nx:=by have:ρ.nx<=id:=hid;omega
  rw [new this];exact h1.nx id hid
 ·exact YL (hi.Ylt b hb) h2.size
theorem part_pure {xs:List PV} {vs:Array Value} (hp:xs.all PV.pure=true) (h:PVRs s xs vs):PVRs (s.part []) xs vs:=by
 refine ⟨h.1,λi x hi=>?_⟩
 rw [YC] at hp
 exact Z1C (λb hb=>⟨Z5D.2 hb,rfl⟩) (Z5T (hp x (Y6 hi))).2 (h.2 i x hi)
theorem part_post {ids:List Nat} {q r:PV} {G2 G3:Heap} {v:Value} {w':World} (hi:Inv s) (hf:FlatIds s.G ids) (h:Post (s.part ids) q G2 v w') (hr:Z05 G2 q=some (r,G3))
  (hs:∀ id∈ids,G3.ent id=s.G.ent id):Post s r s.G v w':=by
 obtain ⟨D',h1,h2,h3⟩:=h
 obtain ⟨⟨e1,e3⟩,e2⟩:=Z4H (s:=⟨w',(s.part ids).Y,G2,D'⟩) hr h1 h3
 have hev:=h2.trans e3
 have loc:∀ id∈ids,D' id=s.D id/\Live G3 id/\∀ cs e fr,s.w.heap[s.D id]? = some (.cells cs e fr)->∃ cs' fr',w'.heap[s.D id]? = some (.cells cs' e fr')/\cs'.size=cs.size:=λid hid=>by
  obtain ⟨el,cells,q1,q2⟩:=hf id hid;obtain ⟨c',l',p1,p2,p3⟩:=hev.blk id el cells true ((only_in hid).trans q1);have p4:=hs id hid;simp only at p1;rw [p1,q1] at p4;cases p4;obtain ⟨p5,p6⟩:=p3 rfl;exact ⟨p5,.inl ⟨el,cells,p1⟩,p6⟩
 have kept:∀ id,id∉ids->(Live s.G id\/s.imm (s.D id))->s.D id<s.w.heap.size->w'.heap[s.D id]? = s.w.heap[s.D id]?:=λid hid hl hlt=>by
  refine hev.keep _ hlt λid' hl' he=>?_;obtain ⟨h4,h5⟩:=Z1I.1 hl';rcases hl with hl|hl
  ·exact hid ((hi.inj id' id h5 hl he)▸h4)
  ·exact hl.2.2 id' h5 he
 have hbl:∀ id el cells lv,s.G.ent id = .blk el cells lv->∀ cs e fr,s.w.heap[s.D id]? = some (.cells cs e fr)->∃ cs' fr',w'.heap[s.D id]? = some (.cells cs' e fr')/\cs'.size=cs.size:=λid el cells lv hent cs e fr hc=>by
  by_cases hid:id∈ids
  ·exact (loc id hid).2.2 cs e fr hc
  ·refine ⟨cs,fr,(kept id hid ?_ (Array.getElem?_eq_some_iff.1 hc).1).trans hc,rfl⟩;cases lv with
   | true=>exact .inl (.inl ⟨el,cells,hent⟩)
   | false=>exact .inr (hi.fz id el cells hent)
 have ev:Ev s ⟨w',s.Y,s.G,s.D⟩:=⟨rfl,hev.size,λb hb hl=>hev.keep b hb λid hlo=>hl id (Z1I.1 hlo).2,λid h _=>⟨id,h,rfl⟩,λid el cells lv hent=>⟨cells,lv,hent,YA _,λ_=>⟨rfl,hbl id el cells lv hent⟩⟩,λid fn e n ps as_ bo st pend h=>⟨⟨st,pend,h⟩,rfl⟩,λid kv h=>⟨⟨kv,h⟩,rfl⟩,hev.os,hev.tape,hev.output⟩
 have im:∀ b,St.imm ⟨w',(s.part ids).Y,G3,D'⟩ b->St.imm ⟨w',s.Y,s.G,s.D⟩ b:=λb hb=>by
  obtain ⟨q1,q2,q3⟩:=hb;simp only [St.part,not_or,not_exists,not_and] at q2;refine ⟨q1,q2.1,λid hl=>?_⟩
  by_cases hid:id∈ids
  ·obtain ⟨p1,p2,_⟩:=loc id hid;have:=q3 id p2;simp only at this ⊢;rw [<- p1];exact this
  ·exact q2.2 id hid hl
 refine ⟨s.D,⟨λid=>?_,hi.inj,hi.notY,λid el c h=>(ev.imm _ (hi.fz id el c h)).1,hi.nx,λb hb=>YL (hi.Ylt b hb) hev.size⟩,ev,flat_pvr (s:=⟨w',(s.part ids).Y,G3,D'⟩) (λb hb=>⟨im b hb,rfl⟩) (Z63 hr) e2⟩
 by_cases hid:id∈ids
 ·have he:=e1.ent id;obtain ⟨el,cells,q1,q2⟩:=hf id hid;simp only at he ⊢;rw [hs id hid,q1] at he;rw [q1];obtain ⟨cs,fr,p1,p2,p3,p4⟩:=he;simp only [(loc id hid).1] at p1;refine ⟨cs,fr,p1,p2,p3,λj x hj=>?_⟩;obtain ⟨u,hu,hp,ho⟩:=p4 j x hj;rw [YC] at q2;exact ⟨u,hu,Z1C (λb hb=>⟨im b hb,rfl⟩) (isV_flat (q2 x (Y6 hj))) hp,ho⟩
 ·have he:=hi.ent id
  simp only;cases hent:s.G.ent id with
  | none=>trivial
  | blk el' c lv=>
   rw [hent] at he;obtain ⟨cs,fr,q1,q2,q3,q4⟩:=he;have hk:=kept id hid (by
    cases lv with
    | true=>exact .inl (.inl ⟨el',c,hent⟩)
    | false=>exact .inr (hi.fz id el' c hent)) (Array.getElem?_eq_some_iff.1 q1).1
   exact ⟨cs,fr,hk.trans q1,q2,q3,λj x hj=>by
    obtain ⟨u,hu,hp,ho⟩:=q4 j x hj;exact ⟨u,hu,ev.pvr hp,ho⟩⟩
  | loop fn' e' n' ps' as' bo' st' pend'=>
   rw [hent] at he;obtain ⟨fn2,tmps,defers,q1,q2,q3⟩:=he;have hk:=kept id hid (.inl (.inr (.inl ⟨_,_,_,_,_,_,_,_,hent⟩))) (Array.getElem?_eq_some_iff.1 q1).1;exact ⟨fn2,tmps,defers,hk.trans q1,q2,λt=>ev.pvr (q3 t)⟩
  | map kv=>
   rw [hent] at he;exact (kept id hid (.inl (.inr (.inr ⟨kv,hent⟩))) (Array.getElem?_eq_some_iff.1 he).1).trans he
theorem Z6v:∀ {ps:List Nat} {xs:List PV} {us:List Value} {e:Env} {a:Act},EnvR s n e a->xs.length=us.length->(∀ (i:Nat) (x:PV),xs[i]? = some x->PVR s x ((us[i]?).getD Go.undef)) ->
  EnvR s n (Z1p e n ps xs) { a with tmps:=(ps.zip us).foldl (λtmps (t,a)=>tmps.setIfInBounds t a) a.tmps }
 | [],_,_,_,_,he,_,_=>by simpa [Z1p] using he
 | p::ps,[],[],_,_,he,_,_=>by simpa [Z1p] using he
 | p::ps,x::xs,u::us,e,a,he,hl,hx=>by
  have h0:=hx 0 x (by simp)
  have h1:=he.put (dst:=some p) (x:=x) (v:=u) (by simpa using h0)
  have:=Z6v (ps:=ps) (xs:=xs) (us:=us) h1 (by simpa using hl) (λi y hy=>by have:=hx (i+1) y (by simpa using hy);simpa using this)
  simpa [Z1p,Act.put] using this
 | _::_,[],_::_,_,_,_,hl,_=>by simp at hl
 | _::_,_::_,[],_,_,_,hl,_=>by simp at hl
structure CtxOK (X:Ctx):Prop where
 prog:ProgOK X.P
 intr:IntrOK X
 prim:PrimSound X
theorem Z4e {s':St} (hi:Inv s') {id:Nat} {fn:FuncId} {e:Env} {ps:List Nat} {as_ bo:Code} {st:LoopState} {pend:Option Code} (h:s'.G.ent id = .loop fn e n ps as_ bo st pend) :
  id<s'.G.nx/\∃ fn' tmps defers,s'.w.heap[s'.D id]? = some (.loop { state:=st,pending:=pend,fn:=fn',tmps:=tmps,params:=ps.toArray,assign:=as_,body:=bo,defers:=defers })/\tmps.size=n/\∀ t,PVR s' (e t) (tmps.getD t Go.undef):=by
 refine ⟨?_,LPut.old_rec hi h⟩
 rcases YF id s'.G.nx with h'|h'
 ·exact h'
 ·have:=hi.nx _ h';rw [h] at this;cases this
theorem Z51 (hX:CtxOK X):∀ k,Z1h X (Za X k)
 | 0=>λc args r G' s h=>by cases c<;>simp [Za] at h
 | k+1=>λc args r G' s h hi hG vs hv=>by
  have ih:=Z51 hX k;have it:=Z3Q (X:=X) k;have ip:=Z39 (X:=X) k;have body:=λ{s:St} {f:FuncId} {args:List PV} {vs:Array Value} {r:PV} {G':Heap}=>body_ok (X:=X) (s:=s) hX.prim hX.prog.mixed hX.prog.names ih it ip (lf:=k) (f:=f) (args:=args) (vs:=vs) (r:=r) (G':=G')
  cases c with
  | fn f=>
   simp only;rcases callD_fn h with ⟨h1,hp,rfl⟩|⟨args',G1,h1,h2⟩
   ·exact hX.intr f args r h1 s hi hG vs hv hp
   ·have t1:Exp s G1/\PVRs ⟨s.w,s.Y,G1,s.D⟩ args' vs:=by
     rcases h1 with ⟨_,rfl,rfl⟩|h1
     ·exact ⟨Exp.refl hi,hv⟩
     ·obtain ⟨e1,e2,e3⟩:=Z4m args s (λj=>vs.getD j Go.undef) args' G1 h1 hi hv.2;exact ⟨e1,by rw [e2];exact hv.1,e3⟩
    obtain ⟨⟨i1,ev1⟩,v1⟩:=t1;have post:∀ {r:PV} {G':Heap} {v:Value} {w':World},Post ⟨s.w,s.Y,G1,s.D⟩ r G' v w'->Post s r G' v w':=λ⟨D',p1,p2,p3⟩=>⟨D',p1,ev1.trans p2,p3⟩;rcases h2 with ⟨hin,hp,rfl⟩|⟨_,h2|⟨hp,ρ,h2,rfl⟩⟩|⟨_,hp,rfl|⟨rfl,hn⟩,q,G2,G3,h2,h3⟩|⟨_,_,q,G2,h2,h3⟩|⟨_,_,hpt,rfl,q,G2,G3,h2,h3,h4⟩
    ·obtain ⟨b1,b2⟩:=hX.intr f args' r hin ⟨s.w,s.Y,G',s.D⟩ i1 (hG.mono ev1) vs v1 hp;exact ⟨b1,b2.mono λen w' ⟨v,e,p⟩=>⟨v,e,post p⟩⟩
    ·obtain ⟨b1,b2⟩:=body (s:=⟨s.w,s.Y,G1,s.D⟩) i1 (hG.mono ev1) v1 h2;exact ⟨b1,b2.mono λen w' ⟨v,e,p⟩=>⟨v,e,post p⟩⟩
    ·obtain ⟨b1,b2⟩:=body (s:=St.part ⟨s.w,s.Y,G1,s.D⟩ []) (part_inv i1 (λid hid=>by cases hid)) (part_glob (hG.mono ev1)) (part_pure hp v1) h2
     have ht:=Z1f it h2;exact ⟨b1,b2.mono λen w' ⟨v,e,p⟩=>⟨v,e,post (fresh_post i1 p ht.1 λk hk=>ht.2 k hk (by simp) rfl)⟩⟩
    ·obtain ⟨b1,b2⟩:=body (s:=St.under ⟨s.w,s.Y,G',s.D⟩) (Z5f i1) (Z6S (hG.mono ev1)) (Z6s hp v1) h2;exact ⟨b1,b2.mono λen w' ⟨v,e,p⟩=>⟨v,e,post (Z6K i1 p h3)⟩⟩
    ·obtain ⟨b1,b2⟩:=body (s:=St.under ⟨s.w,s.Y,G1,s.D⟩) (Z5f i1) (Z6S (hG.mono ev1)) (Z6s hp v1) h2;exact ⟨b1,b2.mono λen w' ⟨v,e,p⟩=>⟨v,e,under_thaw hi p h3 hn⟩⟩
    ·obtain ⟨b1,b2⟩:=body (s:=⟨s.w,s.Y,G1,s.D⟩) i1 (hG.mono ev1) v1 h2;refine ⟨b1,b2.mono λen w' ⟨v,e,p⟩=>⟨v,e,post ?_⟩⟩;obtain ⟨D',p1,p2,p3⟩:=p;obtain ⟨⟨x1,x2⟩,x3⟩:=Z4H (s:=⟨w',s.Y,G2,D'⟩) h3 p1 p3;exact ⟨D',x1,p2.trans x2,x3⟩
    ·have hfl:=partOK_flat hpt;obtain ⟨b1,b2⟩:=body (s:=St.part ⟨s.w,s.Y,G',s.D⟩ (args'.flatMap vids)) (part_inv i1 hfl) (part_glob (hG.mono ev1)) (part_pvrs (s:=⟨s.w,s.Y,G',s.D⟩) hpt v1) h2;exact ⟨b1,b2.mono λen w' ⟨v,e,p⟩=>⟨v,e,post (part_post i1 hfl p h3 h4)⟩⟩
  | yld id=>
   simp only;obtain ⟨fn,e,n,ps,as_,bo,args',G1,e1,G2,pend,x,e3,G3,hen,hlen,ha,h1,⟨fn',e',n',ps',as',bo',h2⟩,h3,h4⟩:=callD_yld h;obtain ⟨hnx,f0,tm,df,q1,q2,q3⟩:=Z4e hi hen;obtain ⟨⟨i1,ev1⟩,l1,v1⟩:=Z4m args s (λj=>vs.getD j Go.undef) args' G1 ha hi hv.2;have hsz:vs.size=ps.length:=by rw [hlen];exact hv.1.symm
   refine ⟨_,_,_,_,_,run_yield q1 (by simpa using hsz),λm=>?_⟩
   refine roundIn_of_wpIn trivial ?_;have he0:EnvR ⟨s.w,s.Y,G1,s.D⟩ n e { tmps:=tm,defers:=[] }:=⟨q2,λt=>ev1.pvr (q3 t)⟩;have he1:=Z6v (ps:=ps) (xs:=args') (us:=vs.toList) he0 (by rw [l1,hv.1];simp) (λi y hy=>by
    have:=v1 i y hy
    simpa [Y7] using this)
   have hfold:(ps.toArray.zip vs).foldl (λtmps (x:Nat×Value)=>tmps.setIfInBounds x.1 x.2) tm=(ps.zip vs.toList).foldl (λtmps (x:Nat×Value)=>tmps.setIfInBounds x.1 x.2) tm:=by
    rw [<- Y0U]
    simp
   have hrd:RdOK (some (s.D id)) ⟨s.w,s.Y,G1,s.D⟩:=λl hl=>by
    cases hl;obtain ⟨⟨st',pend',e4⟩,e5⟩:=ev1.loop _ _ _ _ _ _ _ _ _ hen;exact ⟨id,⟨_,_,_,_,_,_,_,_,e4⟩,rfl⟩
   have he2:EnvR ⟨s.w,s.Y,G1,s.D⟩ n (Z1p e n ps args') { tmps:=(ps.toArray.zip vs).foldl (λtmps (x:Nat×Value)=>tmps.setIfInBounds x.1 x.2) tm,defers:=[] }:=by
    rw [hfold];exact he1
   refine code_ok (rd:=some (s.D id)) hX.prog.mixed ih it ip as_ (s:=⟨s.w,s.Y,G1,s.D⟩) (hG.mono ev1) i1 he2 hrd h1 λa1 w1 D1 ht=>?_;simp only [Ex.out,Exit.then];have evA:=ev1.trans ht.ev;obtain ⟨⟨stA,pendA,eA⟩,hDA⟩:=evA.loop _ _ _ _ _ _ _ _ _ hen;simp only at eA hDA;rw [h2] at eA
   injection eA with a1' a2 a3 a4 a5 a6 a7 a8
   subst a1' a2 a3 a4 a5 a6 a7 a8;obtain ⟨hnx2,f2,tm2,df2,r1,r2,r3⟩:=Z4e (s':=⟨w1,s.Y,G2,D1⟩) ht.inv h2
   simp only [hDA] at r1;have hpB:LPut ⟨w1,s.Y,G2,D1⟩ id fn' e' n' ps' as' bo' .busy pend (s.D id) (w1.putObj (s.D id) (.loop { state:=.busy,pending:=pend,fn:=f2,tmps:=tm2,params:=ps'.toArray,assign:=as',body:=bo',defers:=df2 })) :=
    ⟨.inr ⟨⟨_,_,h2⟩,hDA.symm⟩,by simp,λb _ hb=>World.putObj_heap_other hb,⟨f2,tm2,df2,World.putObj_heap_same (Array.getElem?_eq_some_iff.1 r1).1,r2,r3⟩,hnx2,rfl,rfl,rfl⟩
   have iB:=hpB.inv ht.inv;have evB:=evA.trans (hpB.ev ht.inv);refine ⟨_,run_beginRound r1 rfl,?_⟩;refine code_ok (rd:=some (s.D id)) hX.prog.mixed ih it ip bo' (s:=(St.lput ⟨w1,s.Y,G2,D1⟩ id (.loop fn' e' n' ps' as' bo' .busy pend) (s.D id) _)) (hG.mono evB) iB (ht.env.mono (hpB.ev ht.inv)) ((hrd.mono ht.ev).mono (hpB.ev ht.inv)) h3 λa3 w3 D3 ht3=>?_;have evC:=evB.trans ht3.ev;obtain ⟨⟨stC,pendC,eC⟩,hDC⟩:=evC.loop _ _ _ _ _ _ _ _ _ hen;simp only at eC hDC;obtain ⟨hnx3,f3,tm3,df3,u1,u2,u3⟩:=Z4e (s':=⟨w3,s.Y,G3,D3⟩) ht3.inv eC;simp only [hDC] at u1;have fin:∀ (jump:Option Code) (b:Bool),b=jump.isNone->∃ v w',(Instr.endRound (s.D id) jump).run X.P w3 = .ok v w'/\∃ v',Ending.returned v = .returned v'/\Post s (.v (.bool b)) (G3.put id (.loop fn' e' n' ps' as' bo' (if jump.isNone then .ready else .done) jump)) v' w':=by
    intro jump b hb;have hpC:LPut ⟨w3,s.Y,G3,D3⟩ id fn' e' n' ps' as' bo' (if jump.isNone then .ready else .done) jump (s.D id) (w3.putObj (s.D id) (.loop { state:=if jump.isNone then .ready else .done,pending:=jump,fn:=f3,tmps:=tm3,params:=ps'.toArray,assign:=as',body:=bo',defers:=df3 })) :=
     ⟨.inr ⟨⟨_,_,eC⟩,hDC.symm⟩,by simp,λb _ hb=>World.putObj_heap_other hb,⟨f3,tm3,df3,World.putObj_heap_same (Array.getElem?_eq_some_iff.1 u1).1,u2,u3⟩,hnx3,rfl,rfl,rfl⟩
    subst hb;exact ⟨_,_,run_endRound jump u1,_,rfl,_,hpC.inv ht3.inv,evC.trans (hpC.ev ht3.inv),.v (.bool _)⟩
   rcases h4 with ⟨rfl,rfl,rfl⟩|⟨t,rfl,rfl,rfl⟩|⟨rfl,rfl,rfl⟩
   ·exact fin none true rfl
   ·exact fin (some (.exit t)) false rfl
   ·exact fin (some .ret) false rfl
end Go.Dn

namespace Go.Dn
open Go
def App {α:Type} (F:Nat->Option α) (r:Option α):Prop:=∀ a,r=some a->∃ K,∀ k,K<=k->F k=some a
theorem App.const {α:Type} (r:Option α):App (λ_=>r) r:=λ_ h=>⟨0,λ_ _=>h⟩
theorem App.bind {α β:Type} {F:Nat->Option α} {r:Option α} {Gg:Nat->α->Option β} {g:α->Option β} (h:App F r) (hg:∀ a,App (λk=>Gg k a) (g a)):App (λk=>(F k).bind (Gg k)) (r.bind g):=λb hb=>by
 rw [Y2] at hb
 obtain ⟨a,ha,hb⟩:=hb
 obtain ⟨K1,h1⟩:=h a ha
 obtain ⟨K2,h2⟩:=hg a b hb
 exact ⟨max K1 K2,λk hk=>by show (F k).bind (Gg k)=_;rw [h1 k (by omega)];exact h2 k (by omega)⟩
theorem App.map {α β:Type} {F:Nat->Option α} {r:Option α} (h:App F r) (g:α->β):App (λk=>(F k).map g) (r.map g):=λb hb=>by
 rw [Y0] at hb
 obtain ⟨a,ha,rfl⟩:=hb
 obtain ⟨K1,h1⟩:=h a ha
 exact ⟨K1,λk hk=>by show (F k).map g=_;rw [h1 k hk];rfl⟩
def AppC (F:Nat->ZR) (c:ZR):Prop:=∀ f args G,App (λk=>F k f args G) (c f args G)
variable {X:Ctx} {n:Nat} {F:Nat->ZR} {call:ZR}
theorem callOp_app (hc:AppC F call) {e:Env} {G:Heap} {id0:Nat} {c:Call}:App (λk=>ZM X (F k) e G id0 c) (ZM X call e G id0 c):=by
 intro a h
 unfold ZM at h
 split at h
 ·cases h
 ·rename_i args hargs
  split at h
  ·rename_i b hb;exact ⟨0,λk _=>by simp only [ZM,hargs,hb];exact h⟩
  ·cases h
  ·rename_i f hf
   split at h
   ·rename_i g hg;obtain ⟨K,hK⟩:=hc _ _ _ _ h;exact ⟨K,λk hk=>by simp only [ZM,hargs,hf,hg];exact hK k hk⟩
   ·rename_i g fi ca hg;obtain ⟨K,hK⟩:=hc _ _ _ _ h;exact ⟨K,λk hk=>by simp only [ZM,hargs,hf,hg];exact hK k hk⟩
   ·rename_i id hg;obtain ⟨K,hK⟩:=hc _ _ _ _ h;exact ⟨K,λk hk=>by simp only [ZM,hargs,hf,hg];exact hK k hk⟩
   ·cases h
theorem Z6X (hc:AppC F call) {e:Env} {G:Heap} {id0:Nat} {op:Op}:App (λk=>Z2 X (F k) e G id0 op) (Z2 X call e G id0 op):=by
 cases op<;>first|exact callOp_app hc|exact App.const _|(rename_i g _ _;cases g<;>exact App.const _)|(rename_i _ g;cases g<;>exact App.const _)
theorem Z5X (hc:AppC F call) {ops:Array Oper} {base i:Nat} {o:Oper} {e:Env} {G:Heap}:App (λk=>Zv X (F k) n ops base i o e G) (Zv X call n ops base i o e G):=by
 intro a h
 unfold Zv at h
 split at h
 ·rename_i hw;obtain ⟨K,hK⟩:=(Z6X (X:=X) hc).bind (Gg:=λ_ r=>some (putD n e o.dst r.1,r.2)) (λr=>App.const _) a h;exact ⟨K,λk hk=>by simp only [Zv,hw];exact hK k hk⟩
 ·rename_i hw;exact ⟨0,λk _=>by simp only [Zv,hw];exact h⟩
 ·cases h
theorem Z6x (hc:AppC F call) {ops:Array Oper} {base:Nat}:∀ (l:List Oper) (i:Nat) (e:Env) (G:Heap),App (λk=>Z0a X (F k) n ops base i l e G) (Z0a X call n ops base i l e G)
 | [],_,_,_=>App.const _
 | o::l,i,_,_=>(Z5X hc).bind λr=>Z6x hc l (i+1) r.1 r.2
theorem Z6n {call:ZR} {e:Env} {G:Heap} {id id':Nat} {op:Op} (h:Zh op = .call):Z2 X call e G id op=Z2 X call e G id' op:=by
 cases op<;>simp only [Zh] at h<;>(try (cases h;done))
 case makeFunc fn _ _=>cases fn<;>cases h
 case binOp op _ _ _ _=>cases op<;>cases h
 case call c=>
  simp only [Z2,ZM];cases hc:c.callee with
  | builtin b=>rw [hc] at h;cases b<;>cases h
  | _=>rfl
theorem stepW_app (hc:AppC F call) {ops:Array Oper} {base i:Nat} {o:Oper} {e:Env} {G:Heap}:App (λk=>Zk X (F k) n ops base i o e G) (Zk X call n ops base i o e G):=by
 intro a h
 unfold Zk at h
 split at h
 ·rename_i hw
  split at h
  ·rename_i hs;obtain ⟨K,hK⟩:=Z5X (X:=X) hc a h
   -- what the call comes to is the same from some fuel on
   unfold Zv at h;rw [hw.1] at h;simp only [Y2] at h;obtain ⟨⟨x,G1⟩,h1,_⟩:=h;obtain ⟨K2,hK2⟩:=Z6X (X:=X) hc (x,G1) h1;refine ⟨max K K2,λk hk=>?_⟩;have hs2:Z1o X (F k) ops base i o e G:=by
    refine ⟨hs.1,hs.2.imp id λh0=>h0.imp (λhs2=>⟨hs2.1,λid r G' hr k' hk'=>?_⟩) id⟩;have e1:=hK2 k (by omega)
    have e2:Z2 X (F k) e G id o.op=some (x,G1):=by rw [Z6n hs.1];exact e1
    rw [e2] at hr;cases hr;exact hs2.2 _ _ _ h1 k' hk'
   simp only [Zk];rw [if_pos hw,if_pos hs2];exact hK k (by omega)
  ·cases h
 ·rename_i hw;obtain ⟨K,hK⟩:=Z5X (X:=X) hc a h;exact ⟨K,λk hk=>by simp only [Zk,if_neg hw];exact hK k hk⟩
theorem Z6C (hc:AppC F call) {ops:Array Oper} {base:Nat}:∀ (l:List Oper) (i:Nat) (e:Env) (G:Heap),App (λk=>Z0E X (F k) n ops base i l e G) (Z0E X call n ops base i l e G)
 | [],_,_,_=>App.const _
 | o::l,i,_,_=>(stepW_app hc).bind λr=>Z6C hc l (i+1) r.1 r.2
theorem Z1s (hc:AppC F call) {lf:Nat} {L:Nat->Nat} (hL:∃ K,∀ k,K<=k->lf<=L k) {fn:FuncId}:∀ (c:Code) (e:Env) (G:Heap),App (λk=>Z5 X (F k) (L k) n fn c e G) (Z5 X call lf n fn c e G):=by
 intro c
 induction c with
 | skip=>intro e G;exact App.const _
 | label l=>intro e G;exact App.const _
 | scope c ih=>intro e G;simp only [Z5];exact ih e G
 | region id ops draw=>
  intro e G;cases draw with
  | false=>simp only [Z5,YB,if_false];exact (Z6x hc _ _ _ _).map _
  | true=>
   by_cases hd:Z1j ops=true
   ·simp only [Z5,if_true,hd];exact (Z6C hc _ _ _ _).map _
   ·simp only [Z5,if_true,if_neg hd];exact App.const _
 | seq a b iha ihb=>
  intro e G out h;simp only [Z5] at h
  split at h
  ·rename_i e1 G1 h1;obtain ⟨K1,q1⟩:=iha e G _ h1;obtain ⟨K2,q2⟩:=ihb e1 G1 _ h;exact ⟨max K1 K2,λk hk=>by simp only [Z5,q1 k (by omega)];exact q2 k (by omega)⟩
  ·rename_i hn;obtain ⟨K1,q1⟩:=iha e G _ h;refine ⟨K1,λk hk=>?_⟩;simp only [Z5,q1 k hk]
   split
   ·rename_i heq;rw [h] at hn;cases heq;exact absurd rfl (hn _ _)
   ·rfl
 | cond c a b iha ihb=>
  intro e G out h;simp only [Z5] at h
  split at h
  ·rename_i h1;obtain ⟨K1,q1⟩:=iha e G _ h;exact ⟨K1,λk hk=>by simp only [Z5,h1];exact q1 k hk⟩
  ·rename_i h1;obtain ⟨K1,q1⟩:=ihb e G _ h;exact ⟨K1,λk hk=>by simp only [Z5,h1];exact q1 k hk⟩
  ·cases h
 | block id c ih=>
  intro e G out h;simp only [Z5] at h
  split at h
  ·rename_i id' e1 G1 h1;obtain ⟨K1,q1⟩:=ih e G _ h1;exact ⟨K1,λk hk=>by simp only [Z5,q1 k hk];exact h⟩
  ·rename_i hn;obtain ⟨K1,q1⟩:=ih e G _ h;refine ⟨K1,λk hk=>?_⟩;simp only [Z5,q1 k hk]
   split
   ·rename_i heq;rw [h] at hn;cases heq;exact absurd rfl (hn _ _ _)
   ·rfl
 | loop c ih=>
  intro e G out h;simp only [Z5] at h;have key:∀ (m:Nat) (e:Env) (G:Heap),Z0O (Z5 X call lf n fn c) m e G=some out->∃ K,∀ k,K<=k->∀ m',m<=m'->Z0O (Z5 X (F k) (L k) n fn c) m' e G=some out:=by
   intro m
   induction m with
   | zero=>intro e G h;simp [Z0O] at h
   | succ m ihm=>
    intro e G h;simp only [Z0O] at h
    split at h
    ·rename_i e1 G1 h1;obtain ⟨K1,q1⟩:=ih e G _ h1;obtain ⟨K2,q2⟩:=ihm e1 G1 h;refine ⟨max K1 K2,λk hk m' hm'=>?_⟩;obtain ⟨m',rfl⟩ : ∃ j,m'=j+1:=⟨m'-1,by omega⟩
     simp only [Z0O,q1 k (by omega)]
     exact q2 k (by omega) m' (by omega)
    ·rename_i hn;obtain ⟨K1,q1⟩:=ih e G _ h;refine ⟨K1,λk hk m' hm'=>?_⟩;obtain ⟨m',rfl⟩ : ∃ j,m'=j+1:=⟨m'-1,by omega⟩
     simp only [Z0O,q1 k hk]
     split
     ·rename_i heq;rw [h] at hn;cases heq;exact absurd rfl (hn _ _)
     ·rfl
  obtain ⟨K1,q1⟩:=key lf e G h;obtain ⟨K2,q2⟩:=hL;exact ⟨max K1 K2,λk hk=>by simp only [Z5];exact q1 k (by omega) (L k) (q2 k (by omega))⟩
 | exit id=>intro e G;exact App.const _
 | ret=>intro e G;exact App.const _
 | rangeFunc g ps as_ bo _ _=>
  intro e G out h;simp only [Z5] at h ⊢
  split at h
  ·rename_i gv hg;have fin:∀ (f:Callee) (args:List PV) (G1:Heap),(match call f args G1 with
     | some (_,G2)=>
      match G2.ent G.nx with
      | .loop fn' e' n' ps' as' bo' st pend=>
       if st=LoopState.busy then none else
       match jumpD pend with
       | some x=>some (x,e,G2.put G.nx (.loop fn' e' n' ps' as' bo' .exhausted pend))
       | none=>none
      | _=>none
     | none=>none)=some out->∃ K,∀ k,K<=k->(match F k f args G1 with
     | some (_,G2)=>
      match G2.ent G.nx with
      | .loop fn' e' n' ps' as' bo' st pend=>
       if st=LoopState.busy then none else
       match jumpD pend with
       | some x=>some (x,e,G2.put G.nx (.loop fn' e' n' ps' as' bo' .exhausted pend))
       | none=>none
      | _=>none
     | none=>none)=some out:=by
    intro f args G1 h;cases hr:call f args G1 with
    | none=>rw [hr] at h;cases h
    | some r=>
     rw [hr] at h;obtain ⟨K,hK⟩:=hc _ _ _ _ hr;exact ⟨K,λk hk=>by have hk':F k f args G1=some r:=hK k hk;rw [hk'];exact h⟩
   cases gv with
   | v y=>
    cases y with
    | fn f=>simp only [hg];exact fin _ _ _ h
    | _=>simp at h
   | clo f first caps=>simp only [hg];exact fin _ _ _ h
   | _=>simp at h
  ·cases h
 | _=>intro e G out h;simp [Z5] at h
theorem primD_app (hc:AppC F call) {G:Heap} {p:Prim} {args:List PV}:App (λk=>Z3o X.P (F k) G p args) (Z3o X.P call G p args):=by
 intro out h
 unfold Z3o at h
 split at h
 ·exact ⟨0,λk _=>by simp only [Z3o];exact h⟩
 ·exact ⟨0,λk _=>by simp only [Z3o];exact h⟩
 ·rename_i tu ti d m a g caps
  split at h
  ·rename_i n e1
   split at h
   ·rename_i hn
    split at h
    ·rename_i e2;simp only [Y2] at h;obtain ⟨G1,h1,r1,h2,h⟩:=h;obtain ⟨K,hK⟩:=hc _ _ _ _ h2;exact ⟨K,λk hk=>by
      have q:F k (.fn g) caps G1=some r1:=hK k hk;simp only [Z3o,e1,if_pos hn,e2,h1,Y1,q];exact h⟩
    ·cases h
   ·rename_i hn;exact ⟨0,λk _=>by simp only [Z3o,e1,if_neg hn];exact h⟩
  ·cases h
 ·cases h
theorem Z2o (hc:AppC F call) {lf:Nat} {L:Nat->Nat} (hL:∃ K,∀ k,K<=k->lf<=L k) {f:FuncId} {args:List PV} {G:Heap}:App (λk=>Z02 X (F k) (L k) f args G) (Z02 X call lf f args G):=by
 intro out h
 unfold Z02 at h
 split at h
 ·rename_i p hp;obtain ⟨K,hK⟩:=primD_app (X:=X) hc out h;exact ⟨K,λk hk=>by simp only [Z02,hp];exact hK k hk⟩
 rename_i hp
 split at h
 ·cases h
 ·rename_i fn hfn
  split at h
  ·cases h
  ·rename_i c hb
   split at h
   ·rename_i h1;obtain ⟨K,hK⟩:=Z1s hc hL c _ _ _ h1;exact ⟨K,λk hk=>by simp only [Z02,hp,hfn,hb,hK k hk];exact h⟩
   ·rename_i h1;obtain ⟨K,hK⟩:=Z1s hc hL c _ _ _ h1;exact ⟨K,λk hk=>by simp only [Z02,hp,hfn,hb,hK k hk];exact h⟩
   ·cases h
noncomputable def Z2K (X:Ctx) (call:ZR) (lf:Nat):ZR
 | .fn f,args,G=>
  match X.intr f args with
  | some r=>if args.all PV.pure then some (r,G) else none
  | none=>
   match (if X.keep f then some (args,G) else Zz G args) with
   | none=>none
   | some (args,G1)=>
    match X.intr f args with
    | some r=>if args.all PV.pure then some (r,G1) else none
    | none=>
    if X.opn f then (if X.fresh f&&args.all PV.pure then (Z02 X call lf f args (G1.only [])).map λr=>(r.1,G1.join r.2) else Z02 X call lf f args G1)
    else if args.all PV.pure then (Z02 X call lf f args Heap.empty).bind λr=>(Z05 r.2 r.1).map λs=>(s.1,if X.thaw f&&s.1.Z3k then G else G1)
    else if X.keep f&&X.shut f then
     if Z2a G1 args then (Z02 X call lf f args (G1.only (args.flatMap vids))).bind λr=>(Z05 r.2 r.1).bind λs=>@ite _ (∀ id∈args.flatMap vids,s.2.ent id=G1.ent id) (Classical.propDecidable _) (some (s.1,G1)) none else none
    else (Z02 X call lf f args G1).bind λr=>Z05 r.2 r.1
 | .yld id,args,G=>
  match G.ent id with
  | .loop fn e n ps as_ bo .ready none=>
   if ps.length=args.length then
    match Zz G args with
    | none=>none
    | some (args,G)=>
    match Z5 X call lf n fn as_ (Z1p e n ps args) G with
    | some (.normal,e1,G1)=>
     match G1.ent id with
     | .loop _ _ _ _ _ _ .ready pend=>
      match Z5 X call lf n fn bo e1 (G1.put id (.loop fn e n ps as_ bo .busy pend)) with
      | some (x,_,G2)=>
       match x with
       | .normal=>some (.v (.bool true),G2.put id (.loop fn e n ps as_ bo .ready none))
       | .exit t=>some (.v (.bool false),G2.put id (.loop fn e n ps as_ bo .done (some (.exit t))))
       | .ret=>some (.v (.bool false),G2.put id (.loop fn e n ps as_ bo .done (some .ret)))
      | none=>none
     | _=>none
    | _=>none
   else none
  | _=>none
theorem Z4n (k:Nat):Za X (k+1)=Z2K X (Za X k) k:=by
 funext c args G
 cases c<;>(simp only [Za,Z2K];rfl)
theorem callS_app (hc:AppC F call) {lf:Nat} {L:Nat->Nat} (hL:∃ K,∀ k,K<=k->lf<=L k):AppC (λk=>Z2K X (F k) (L k)) (Z2K X call lf):=by
 intro c args G
 cases c with
 | fn f=>
  simp only [Z2K]
  split
  ·exact App.const _
  ·split
   ·exact App.const _
   ·split
    ·exact App.const _
    ·split
     ·split
      ·exact (Z2o hc hL).map _
      ·exact Z2o hc hL
     ·split
      ·exact (Z2o hc hL).bind λr=>App.const _
      ·split
       ·split
        ·exact (Z2o hc hL).bind λr=>App.const _
        ·exact App.const _
       ·exact (Z2o hc hL).bind λr=>App.const _
 | yld id=>
  simp only [Z2K]
  split
  ·split
   ·split
    ·exact App.const _
    ·rename_i fn e n ps as_ bo _ _ _ args' G1 _;intro out h
     split at h
     ·rename_i e1 G2 h1;obtain ⟨K1,q1⟩:=Z1s hc hL _ _ _ _ h1
      split at h
      ·rename_i h2
       split at h
       ·rename_i x e3 G3 h3;obtain ⟨K2,q2⟩:=Z1s hc hL _ _ _ _ h3;exact ⟨max K1 K2,λk hk=>by simp only [q1 k (by omega),h2,q2 k (by omega)];exact h⟩
       ·cases h
      ·cases h
     ·cases h
   ·exact App.const _
  ·exact App.const _
theorem Z5s:∀ k,AppC (λ_=>Za X (k+1)) (Za X k)
 | 0=>λc args G out h=>by cases c<;>simp [Za] at h
 | k+1=>by
  have ih:=callS_app (X:=X) (Z5s k) (lf:=k) (L:=λ_=>k+1) ⟨0,λ_ _=>Y0X k⟩;rw [Z4n k];rw [Z4n (k+1)];exact ih
theorem Z4a {k k':Nat} (h:k<=k') {c:Callee} {args:List PV} {G:Heap} {r:PV×Heap} (hr:Za X k c args G=some r):Za X k' c args G=some r:=by
 induction h with
 | refl=>exact hr
 | @step m _ ih=>
  obtain ⟨K,hK⟩:=Z5s m c args G r ih;exact hK K (YA _)
open Classical in
noncomputable def Zm (X:Ctx):ZR:=λc args G=>if h:∃ r,∃ k,Za X k c args G=some r then some h.choose else none
theorem Z0A {c:Callee} {args:List PV} {G:Heap} {r:PV×Heap}:Zm X c args G=some r ↔ ∃ k,Za X k c args G=some r:=by
 unfold Zm
 constructor
 ·intro h
  split at h
  ·rename_i hex;cases h;exact hex.choose_spec
  ·cases h
 ·rintro ⟨k,h⟩;have hex:∃ r,∃ k,Za X k c args G=some r:=⟨r,k,h⟩;rw [dif_pos hex];obtain ⟨k',h'⟩:=hex.choose_spec;have e1:=Z4a (Nat.le_max_left k k') h;have e2:=Z4a (Nat.le_max_right k k') h';rw [e1] at e2;exact e2.symm
theorem callL_app:AppC (λk=>Za X k) (Zm X):=λc args G r h=>by
 obtain ⟨k,hk⟩:=Z0A.1 h
 exact ⟨k,λk' hk'=>Z4a hk' hk⟩
theorem Z0m {lf:Nat} {c:Callee} {args:List PV} {G:Heap} {r:PV×Heap} (h:Z2K X (Zm X) lf c args G=some r):Zm X c args G=some r:=by
 obtain ⟨K,hK⟩:=callS_app (X:=X) callL_app (lf:=lf) (L:=λk=>k) ⟨lf,λk hk=>hk⟩ c args G r h
 exact Z0A.2 ⟨K+1,by rw [Z4n];exact hK K (YA _)⟩
structure Runs (X:Ctx) (n:Nat) (fn:FuncId) (c:Code) (e:Env) (G:Heap) (Q:Ex->Env->Heap->Prop):Prop where
 run:∃ lf x e' G',Z5 X (Zm X) lf n fn c e G=some (x,e',G')/\Q x e' G'
variable {fn:FuncId} {c a b:Code} {e:Env} {G:Heap} {Q:Ex->Env->Heap->Prop}
theorem Z0S {lf lf':Nat} (h:lf<=lf') {out:Out} (hr:Z5 X call lf n fn c e G=some out):Z5 X call lf' n fn c e G=some out:=by
 obtain ⟨K,hK⟩:=Z1s (F:=λ_=>call) (λf args G=>App.const _) (lf:=lf) (L:=λ_=>lf') ⟨0,λ_ _=>h⟩ c e G out hr
 exact hK K (YA _)
theorem Runs.skip (h:Q .normal e G):Runs X n fn .skip e G Q:=⟨0,_,_,_,rfl,h⟩
theorem Runs.exit {id:Nat} (h:Q (.exit id) e G):Runs X n fn (.exit id) e G Q:=⟨0,_,_,_,rfl,h⟩
theorem Runs.ret (h:Q .ret e G):Runs X n fn .ret e G Q:=⟨0,_,_,_,rfl,h⟩
theorem Runs.label {l:Nat} (h:Q .normal e G):Runs X n fn (.label l) e G Q:=⟨0,_,_,_,rfl,h⟩
theorem Runs.scope (h:Runs X n fn c e G Q):Runs X n fn (.scope c) e G Q:=by
 obtain ⟨l1,x,e1,G1,h1,h2⟩:=h.run
 exact ⟨l1,x,e1,G1,by simp only [Z5];exact h1,h2⟩
theorem Runs.seq (h:Runs X n fn a e G λx e' G'=>match x with | .normal=>Runs X n fn b e' G' Q|x=>Q x e' G'):Runs X n fn (.seq a b) e G Q:=by
 obtain ⟨l1,x,e1,G1,h1,h2⟩:=h.run
 cases x with
 | normal=>
  obtain ⟨l2,y,e2,G2,h3,h4⟩:=h2.run;exact ⟨max l1 l2,y,e2,G2,by simp only [Z5,Z0S (Nat.le_max_left l1 l2) h1];exact Z0S (Nat.le_max_right l1 l2) h3,h4⟩
 | exit id=>exact ⟨l1,_,e1,G1,by simp only [Z5,h1],h2⟩
 | ret=>exact ⟨l1,_,e1,G1,by simp only [Z5,h1],h2⟩
theorem Runs.mono {Q':Ex->Env->Heap->Prop} (h:Runs X n fn c e G Q) (hq:∀ x e G,Q x e G->Q' x e G):Runs X n fn c e G Q':=by
 obtain ⟨l1,x,e1,G1,h1,h2⟩:=h.run
 exact ⟨l1,x,e1,G1,h1,hq _ _ _ h2⟩
theorem Runs.block {id:Nat} (h:Runs X n fn c e G λx e' G'=>if x = .exit id then Q .normal e' G' else Q x e' G'):Runs X n fn (.block id c) e G Q:=by
 obtain ⟨l1,x,e1,G1,h1,h2⟩:=h.run
 cases x with
 | normal=>exact ⟨l1,.normal,e1,G1,by simp only [Z5,h1],by simpa using h2⟩
 | ret=>exact ⟨l1,.ret,e1,G1,by simp only [Z5,h1],by simpa using h2⟩
 | exit id'=>
  by_cases hid:id'=id
  ·subst hid;exact ⟨l1,.normal,e1,G1,by simp only [Z5,h1,if_true],by simpa using h2⟩
  ·exact ⟨l1,.exit id',e1,G1,by simp only [Z5,h1,if_neg hid],by simpa [hid] using h2⟩
theorem Runs.cond {t:Operand} {v:Bool} (ht:Z1 X e t=some (.v (.bool v))) (h1:v=true->Runs X n fn a e G Q) (h2:v=false->Runs X n fn b e G Q):Runs X n fn (.cond t a b) e G Q:=by
 cases v with
 | true=>
  obtain ⟨l1,x,e1,G1,h1,h2⟩:=(h1 rfl).run;exact ⟨l1,x,e1,G1,by simp only [Z5,ht];exact h1,h2⟩
 | false=>
  obtain ⟨l1,x,e1,G1,h1,h2⟩:=(h2 rfl).run;exact ⟨l1,x,e1,G1,by simp only [Z5,ht];exact h1,h2⟩
theorem Runs.ops {id:Nat} {ops:Array Oper} {r:Env×Heap} (h:Z0a X (Zm X) n ops G.nx 0 ops.toList e ⟨G.nx+ops.size,G.ent⟩=some r) (hq:Q .normal r.1 r.2):Runs X n fn (.region id ops false) e G Q :=
 ⟨0,_,_,_,by simp only [Z5,YB,if_false,h,Y9],hq⟩
theorem Runs.draw {id:Nat} {ops:Array Oper} {r:Env×Heap} (hd:Z1j ops=true) (h:Z0E X (Zm X) n ops G.nx 0 ops.toList e ⟨G.nx+ops.size,G.ent⟩=some r) (hq:Q .normal r.1 r.2):Runs X n fn (.region id ops true) e G Q :=
 ⟨0,_,_,_,by simp only [Z5,if_true,hd,h,Y9],hq⟩
theorem Runs.loop (I:Nat->Env->Heap->Prop) {m:Nat} (h0:I m e G)
  (hs:∀ m e G,I m e G->Runs X n fn c e G λx e' G'=>match x with | .normal=>∃ m',m'<m/\I m' e' G'|x=>Q x e' G'):Runs X n fn (.loop c) e G Q:=by
 have key:∀ m e G,I m e G->∃ lf,∀ lf',lf<=lf'->∃ j x e' G',Z0O (Z5 X (Zm X) lf' n fn c) j e G=some (x,e',G')/\Q x e' G':=by
  intro m
  induction m using Nat.strongRecOn with
  | _ m ih=>
   intro e G hI;obtain ⟨l1,x,e1,G1,h1,h2⟩:=(hs m e G hI).run
   cases x with
   | normal=>
    obtain ⟨m',hlt,hI'⟩:=h2;obtain ⟨l2,q2⟩:=ih m' hlt e1 G1 hI';refine ⟨max l1 l2,λlf' hl=>?_⟩;obtain ⟨j,x,e',G',q3,q4⟩:=q2 lf' (by omega)
    exact ⟨j+1,x,e',G',by simp only [Z0O,Z0S (show l1<=lf' by omega) h1];exact q3,q4⟩
   | exit id=>exact ⟨l1,λlf' hl=>⟨1,_,e1,G1,by simp only [Z0O,Z0S hl h1],h2⟩⟩
   | ret=>exact ⟨l1,λlf' hl=>⟨1,_,e1,G1,by simp only [Z0O,Z0S hl h1],h2⟩⟩
 obtain ⟨lf,hl⟩:=key m e G h0
 obtain ⟨j,x,e',G',q1,q2⟩:=hl lf (YA _)
 have up:∀ (step step':Env->Heap->Option Out) (hst:∀ e G r,step e G=some r->step' e G=some r) (j j':Nat) (hj:j<=j') (e:Env) (G:Heap) (r:Out),Z0O step j e G=some r->Z0O step' j' e G=some r:=by
  intro step step' hst j
  induction j with
  | zero=>intro j' _ e G r h;simp [Z0O] at h
  | succ j ihj=>
   intro j' hj e G r h;obtain ⟨j',rfl⟩ : ∃ i,j'=i+1:=⟨j'-1,by omega⟩
   simp only [Z0O] at h ⊢
   split at h
   ·rename_i h1;rw [hst _ _ _ h1];exact ihj j' (by omega) _ _ _ h
   ·rename_i hn;rw [hst _ _ _ h]
    split
    ·rename_i heq;rw [h] at hn;cases heq;exact absurd rfl (hn _ _)
    ·rfl
 refine ⟨max lf j,x,e',G',?_,q2⟩
 simp only [Z5]
 exact up _ _ (λe G r h=>Z0S (Nat.le_max_left lf j) h) j _ (Nat.le_max_right lf j) _ _ _ q1
structure Fn (X:Ctx) (f:FuncId) (args:List PV) (r:PV):Prop where
 call:∀ G,Zm X (.fn f) args G=some (r,G)
 pure:args.all PV.pure=true
 keep:X.keep f=false
 opn:X.opn f=false
theorem Fn.of {f:FuncId} {args:List PV} {r:PV} {fu:Func} {c:Code} (hf:X.P.funcs[f]? = some fu) (hb:fu.body=some c) (hi:X.intr f args=none) (hk:X.keep f=false) (ho:X.opn f=false) (hp:args.all PV.pure=true)
  (h:Runs X (max fu.ntmps args.length) f c (Z2t args) Heap.empty λx e G=>(x = .normal\/x = .ret)/\∃ xs G',ZY X.P e G fu.results.toList=some xs/\Z05 G (Z0J xs)=some (r,G')) (hq:X.prim f=none:=by rfl):Fn X f args r:=by
 refine ⟨λG=>?_,hp,hk,ho⟩
 obtain ⟨lf,x,e',G',h1,hx,xs,G2,h2,h3⟩:=h.run
 refine Z0m (lf:=lf) ?_
 have hbody:Z02 X (Zm X) lf f args Heap.empty=some (Z0J xs,G'):=by
  simp only [Z02,hq,hf,hb,h1];rcases hx with rfl|rfl<;>simp only [h2,Y9]
 simp only [Z2K,hi,hk,YB,if_false,Z0c hp,ho,hp,if_true,hbody,Y1,h3,Y9,ite_self]
theorem Fn.intr {f:FuncId} {args:List PV} {r:PV} (hi:X.intr f args=some r) (hp:args.all PV.pure=true) (hk:X.keep f=false) (ho:X.opn f=false):Fn X f args r :=
 ⟨λG=>Z0m (lf:=0) (by simp only [Z2K,hi,hp,if_true]),hp,hk,ho⟩
theorem Fn.run {f:FuncId} {args:List PV} {r:PV} (k:Nat) (h:∀ G,Za X k (.fn f) args G=some (r,G)) (hp:args.all PV.pure=true) (hk:X.keep f=false) (ho:X.opn f=false):Fn X f args r :=
 ⟨λG=>Z0A.2 ⟨k,h G⟩,hp,hk,ho⟩
end Go.Dn

namespace Go.Dn
open Go
def set (e:Env) (d:Nat) (v:PV):Env:=λj=>bif Nat.beq j d then v else e j
theorem set_eq (e:Env) (d:Nat) (v:PV):set e d v=upd e d v:=by
 funext j
 simp only [set,upd]
 by_cases h:j=d
 ·subst h;simp
 ·have:Nat.beq j d=false:=by
   cases hb:Nat.beq j d with
   | false=>rfl
   | true=>exact absurd (Yy hb) h
  rw [this,if_neg h]
  rfl
structure Ops (X:Ctx) (n:Nat) (dr:Bool) (ops:Array Oper) (base i:Nat) (l:List Oper) (e:Env) (G:Heap) (K:Env->Heap->Prop):Prop where
 run:∃ e' G',(if dr then Z0E X (Zm X) n ops base i l e G else Z0a X (Zm X) n ops base i l e G)=some (e',G')/\K e' G'
variable {X:Ctx} {n:Nat} {dr:Bool} {fn:FuncId} {ops:Array Oper} {base i:Nat} {l:List Oper} {e:Env} {G:Heap} {K:Env->Heap->Prop} {Q:Ex->Env->Heap->Prop} {c a b:Code}
def Then' (R:Env->Heap->Prop) (Q:Ex->Env->Heap->Prop):Ex->Env->Heap->Prop
 | .normal,e,G=>R e G
 | x,e,G=>Q x e G
def InBlock (id:Nat) (Q:Ex->Env->Heap->Prop):Ex->Env->Heap->Prop
 | .exit id',e,G=>if id'=id then Q .normal e G else Q (.exit id') e G
 | x,e,G=>Q x e G
theorem Runs.then (h:Runs X n fn a e G (Then' (λe G=>Runs X n fn b e G Q) Q)):Runs X n fn (.seq a b) e G Q :=
 .seq (h.mono λx e G hx=>by cases x<;>exact hx)
theorem Runs.inBlock {id:Nat} (h:Runs X n fn c e G (InBlock id Q)):Runs X n fn (.block id c) e G Q :=
 .block (h.mono λx e G hx=>by
  cases x with
  | exit id'=>
   simp only [InBlock] at hx
   by_cases hid:id'=id
   ·simp only [hid,if_true] at hx ⊢;exact hx
   ·simp only [hid,if_false] at hx;rw [if_neg (by simpa using hid)]
    exact hx
  | normal=>exact (by simpa [InBlock] using hx)
  | ret=>exact (by simpa [InBlock] using hx))
theorem Runs.region {id m m':Nat} {ent:Nat->Ent} (hm:m+l.length=m') (h:Ops X n false l.toArray m 0 l e ⟨m',ent⟩ (Q .normal)):Runs X n fn (.region id l.toArray false) e ⟨m,ent⟩ Q:=by
 subst hm
 obtain ⟨e',G',h1,h2⟩:=h.run
 simp only [YB,if_false] at h1
 exact Runs.ops (r:=(e',G')) (by simpa using h1) h2
theorem Runs.drawn {id m m':Nat} {ent:Nat->Ent} (hd:Z1j l.toArray=true) (hm:m+l.length=m') (h:Ops X n true l.toArray m 0 l e ⟨m',ent⟩ (Q .normal)):Runs X n fn (.region id l.toArray true) e ⟨m,ent⟩ Q:=by
 subst hm
 obtain ⟨e',G',h1,h2⟩:=h.run
 simp only [if_true] at h1
 exact Runs.draw hd (r:=(e',G')) (by simpa using h1) h2
theorem Runs.whether {t:Operand} {v:Bool} (ht:Z1 X e t=some (.v (.bool v))) (h1:v=true->Runs X n fn a e G Q) (h2:v=false->Runs X n fn b e G Q):Runs X n fn (.cond t a b) e G Q:=.cond ht h1 h2
theorem Runs.yes {t:Operand} (ht:Z1 X e t=some (.v (.bool true))) (h1:Runs X n fn a e G Q):Runs X n fn (.cond t a b) e G Q:=.cond ht (λ_=>h1) (λh=>by cases h)
theorem Runs.no {t:Operand} (ht:Z1 X e t=some (.v (.bool false))) (h1:Runs X n fn b e G Q):Runs X n fn (.cond t a b) e G Q:=.cond ht (λh=>by cases h) (λ_=>h1)
theorem Ops.nil (h:K e G):Ops X n dr ops base i [] e G K:=⟨e,G,by cases dr<;>rfl,h⟩
theorem Ops.step {o:Oper} {e1:Env} {G1:Heap} (h:Zv X (Zm X) n ops base i o e G=some (e1,G1)) (ha:dr=true->ZP ops e o=some true->ZK X ops base i o e=true) (hk:Ops X n dr ops base (i+1) l e1 G1 K):Ops X n dr ops base i (o::l) e G K:=by
 obtain ⟨e',G',h1,h2⟩:=hk.run
 refine ⟨⟨e',G',?_,h2⟩⟩
 cases dr with
 | false=>
  simp only [YB,if_false] at h1 ⊢;simp only [Z0a,h,Y1,h1]
 | true=>
  simp only [if_true] at h1 ⊢;have:Zk X (Zm X) n ops base i o e G=some (e1,G1):=by
   unfold Zk;rw [if_neg]
   ·exact h
   ·rintro ⟨q1,q2⟩;rw [ha rfl q1] at q2;cases q2
  simp only [Z0E,this,Y1,h1]
def inert (op:Op):Bool:=Zh op == .pure&&(match op with | .slice .. | .buildSlice ..=>false|_=>true)
theorem ask0 {o:Oper} (h:ZO X ops base i o e=true):ZK X ops base i o e=true:=by
 unfold ZK
 rw [h,Bool.or_true]
theorem ask_all {o:Oper} (h:Z1m (Region.before ops) ops i=true):ZK X ops base i o e=true:=by
 unfold ZK
 rw [h,Bool.true_or]
theorem Z04 {o:Oper} (h:inert o.op=true):ZK X ops base i o e=true:=by
 refine ask0 ?_
 unfold inert at h
 simp only [Y8,beq_iff_eq] at h
 unfold ZO
 rw [h.1]
 cases ho:o.op<;>rw [ho] at h<;>simp_all [frozen]
theorem Z1H {o:Oper} (h:Zh o.op = .read) (ht:touched X e o.op=[]):ZK X ops base i o e=true:=by
 refine ask0 ?_
 unfold ZO
 rw [h,ht]
 simp
theorem blt_lt {d m:Nat} (h:Nat.blt d m=true):d<m:=by
 rw [Nat.blt_eq] at h
 exact h
section
variable {d:Nat} {op:Op} {t:TypeId} {p:String} {af:Array Edge} {x:PV} {G1:Heap}
theorem Ops.plain (h:Z2 X (Zm X) e G (base+i) op=some (x,G1)) (ha:dr=true->ZK X ops base i ⟨some d,op,t,p,af,none⟩ e=true) (hd:Nat.blt d n=true) (hk:Ops X n dr ops base (i+1) l (set e d x) G1 K):Ops X n dr ops base i (⟨some d,op,t,p,af,none⟩::l) e G K:=by
 refine .step ?_ (λhw _=>ha hw) hk
 simp only [Zv,ZP,h,Y1,putD,if_pos (blt_lt hd),set_eq]
theorem Ops.plain0 (h:Z2 X (Zm X) e G (base+i) op=some (x,G1)) (ha:dr=true->ZK X ops base i ⟨none,op,t,p,af,none⟩ e=true) (hk:Ops X n dr ops base (i+1) l e G1 K):Ops X n dr ops base i (⟨none,op,t,p,af,none⟩::l) e G K:=by
 refine .step ?_ (λhw _=>ha hw) hk
 simp only [Zv,ZP,h,Y1,putD]
theorem Ops.part {o:Oper} {g:Nat} {v:Bool} (h:e g = .v (.bool v)) (ht:v=true->Ops X n dr ops base i (o::l) (set e g (.v (.bool true))) G K) (hf:v=false->Ops X n dr ops base i (o::l) (set e g (.v (.bool false))) G K):Ops X n dr ops base i (o::l) e G K:=by
 have key:set e g (.v (.bool v))=e:=by
  rw [set_eq]
  funext k
  simp only [upd]
  split
  ·rename_i hk;rw [hk,h]
  ·rfl
 cases v with
 | true=>rw [<- key];exact ht rfl
 | false=>rw [<- key];exact hf rfl
variable {j g:Nat} {w:Bool}
theorem Ops.split {dst:Option Tmp} {v:Bool} (hg:(ops[j]?).bind (·.dst)=some g) (h:e g = .v (.bool v)) (ht:v=true->Ops X n dr ops base i (⟨dst,op,t,p,af,some (j,w)⟩::l) (set e g (.v (.bool true))) G K)
  (hf:v=false->Ops X n dr ops base i (⟨dst,op,t,p,af,some (j,w)⟩::l) (set e g (.v (.bool false))) G K):Ops X n dr ops base i (⟨dst,op,t,p,af,some (j,w)⟩::l) e G K:=by
 have _:=hg
 exact .part h ht hf
theorem Ops.wanted {dst:Option Tmp} (hg:(ops[j]?).bind (·.dst)=some g) (he:e g = .v (.bool w)) (hk:Ops X n dr ops base i (⟨dst,op,t,p,af,none⟩::l) e G K):Ops X n dr ops base i (⟨dst,op,t,p,af,some (j,w)⟩::l) e G K:=by
 obtain ⟨e',G',h1,h2⟩:=hk.run
 refine ⟨⟨e',G',?_,h2⟩⟩
 have this:ZP ops e ⟨dst,op,t,p,af,some (j,w)⟩=some true:=by
  simp only [ZP,hg,he];cases w<;>rfl
 have t2:ZP ops e ⟨dst,op,t,p,af,none⟩=some true:=rfl
 have s1:Zv X (Zm X) n ops base i ⟨dst,op,t,p,af,some (j,w)⟩ e G=Zv X (Zm X) n ops base i ⟨dst,op,t,p,af,none⟩ e G:=by
  unfold Zv;rw [this,t2]
 have s2:ZK X ops base i ⟨dst,op,t,p,af,some (j,w)⟩ e=ZK X ops base i ⟨dst,op,t,p,af,none⟩ e:=rfl
 have s3:Zk X (Zm X) n ops base i ⟨dst,op,t,p,af,some (j,w)⟩ e G=Zk X (Zm X) n ops base i ⟨dst,op,t,p,af,none⟩ e G:=by
  unfold Zk;rw [this,t2,s1,s2]
  rfl
 rw [<- h1]
 cases dr<;>simp only [YB,if_false,if_true,Z0a,Z0E,s1,s3]
theorem Ops.want (hg:(ops[j]?).bind (·.dst)=some g) (he:e g = .v (.bool w)) (hk:Ops X n dr ops base i (⟨some d,op,t,p,af,none⟩::l) e G K):Ops X n dr ops base i (⟨some d,op,t,p,af,some (j,w)⟩::l) e G K:=.wanted hg he hk
theorem Ops.pass (hg:(ops[j]?).bind (·.dst)=some g) (he:e g = .v (.bool (!w))) (hd:Nat.blt d n=true) (hk:Ops X n dr ops base (i+1) l (set e d .undef) G K):Ops X n dr ops base i (⟨some d,op,t,p,af,some (j,w)⟩::l) e G K:=by
 have:ZP ops e ⟨some d,op,t,p,af,some (j,w)⟩=some false:=by
  simp only [ZP,hg,he];cases w<;>rfl
 refine .step ?_ (λ_ h=>by rw [this] at h;cases h) hk
 simp only [Zv,this,putD,if_pos (blt_lt hd),set_eq]
theorem Ops.passU (hg:(ops[j]?).bind (·.dst)=some g) (he:e g = .undef) (hd:Nat.blt d n=true) (hk:Ops X n dr ops base (i+1) l (set e d .undef) G K):Ops X n dr ops base i (⟨some d,op,t,p,af,some (j,w)⟩::l) e G K:=by
 have:ZP ops e ⟨some d,op,t,p,af,some (j,w)⟩=some false:=by
  simp only [ZP,hg,he]
 refine .step ?_ (λ_ h=>by rw [this] at h;cases h) hk
 simp only [Zv,this,putD,if_pos (blt_lt hd),set_eq]
theorem Ops.pass0 (hg:(ops[j]?).bind (·.dst)=some g) (he:e g = .v (.bool (!w))) (hk:Ops X n dr ops base (i+1) l e G K):Ops X n dr ops base i (⟨none,op,t,p,af,some (j,w)⟩::l) e G K:=by
 have:ZP ops e ⟨none,op,t,p,af,some (j,w)⟩=some false:=by
  simp only [ZP,hg,he];cases w<;>rfl
 refine .step ?_ (λ_ h=>by rw [this] at h;cases h) hk
 simp only [Zv,this,putD]
theorem Ops.pass0U (hg:(ops[j]?).bind (·.dst)=some g) (he:e g = .undef) (hk:Ops X n dr ops base (i+1) l e G K):Ops X n dr ops base i (⟨none,op,t,p,af,some (j,w)⟩::l) e G K:=by
 have:ZP ops e ⟨none,op,t,p,af,some (j,w)⟩=some false:=by
  simp only [ZP,hg,he]
 refine .step ?_ (λ_ h=>by rw [this] at h;cases h) hk
 simp only [Zv,this,putD]
theorem Ops.call {f:FuncId} {args:Array Operand} {ts:Array TypeId} {ys:List PV} {r:PV} (ha:ZG X e args.toList=some ys) (hf:Fn X f ys r) (hd:Nat.blt d n=true) (hk:Ops X n dr ops base (i+1) l (set e d r) G K) :
  Ops X n dr ops base i (⟨some d,.call { callee:=.value (.func f),args:=args,argTypes:=ts },t,p,af,none⟩::l) e G K :=
 .plain (x:=r) (G1:=G) (by simp only [Z2,ZM,ha,Z1,hf.call G]) (λ_=>by
  exact ask0 (by simp only [ZO,Zh,ha,Z3G,Z1,pure_calm hf.pure,hf.opn,hf.keep,Y0Y,Yi])) hd hk
end
section
variable {d:Nat} {t t1 t2:TypeId} {p:String} {af:Array Edge} {x y:Operand} {v:PV}
theorem ask_bin {op:BinOp} {u v:FV} {o:Oper} (hx:Z1 X e x=some (.v u)) (hy:Z1 X e y=some (.v v)) (ho:o.op = .binOp op t1 x y t2:=by rfl):ZK X ops base i o e=true:=by
 by_cases h:Zh o.op = .pure
 ·exact Z04 (by rw [ho] at h;simp only [inert,ho,h];rfl)
 ·refine Z1H ?_ ?_
  ·rw [ho] at h ⊢;cases op<;>first|rfl|exact absurd rfl h
  ·rw [ho];simp only [touched,ZF,YE,YG,hx,hy,vids,YK]
theorem Ops.move (hx:Z1 X e x=some v) (hd:Nat.blt d n=true) (hk:Ops X n dr ops base (i+1) l (set e d v) G K):Ops X n dr ops base i (⟨some d,.move x,t,p,af,none⟩::l) e G K :=
 .plain (by simp only [Z2,hx,Y9]) (λ_=>Z04 rfl) hd hk
theorem Ops.assign (hx:Z1 X e x=some v) (hd:Nat.blt d n=true) (hk:Ops X n dr ops base (i+1) l (set e d v) G K):Ops X n dr ops base i (⟨some d,.assign x,t,p,af,none⟩::l) e G K :=
 .plain (by simp only [Z2,hx,Y9]) (λ_=>Z04 rfl) hd hk
theorem Ops.int {op:BinOp} {k:IntKind} {m m':Int} {r:FV} (hx:Z1 X e x=some (.v (.int k m))) (hy:Z1 X e y=some (.v (.int k m'))) (hop:(op != .shl&&op != .shr)=true) (hr:Z3r op k m m'=some r) (hd:Nat.blt d n=true) (hk:Ops X n dr ops base (i+1) l (set e d (.v r)) G K) :
  Ops X n dr ops base i (⟨some d,.binOp op t1 x y t2,t,p,af,none⟩::l) e G K:=by
 refine .plain (x:=.v r) (G1:=G) ?_ (λ_=>ask_bin hx hy) hd hk
 simp only [Z2,hx,hy]
 cases op<;>simp [binD,hr] at hop ⊢
theorem Ops.shl {k k':IntKind} {m m':Int} (hx:Z1 X e x=some (.v (.int k m))) (hy:Z1 X e y=some (.v (.int k' m'))) (h0:0<=m') (hd:Nat.blt d n=true) (hk:Ops X n dr ops base (i+1) l (set e d (.v (.int k (k.wrap (m*2 ^ min m'.toNat k.bits))))) G K) :
  Ops X n dr ops base i (⟨some d,.binOp .shl t1 x y t2,t,p,af,none⟩::l) e G K:=by
 refine .plain (G1:=G) ?_ (λ_=>ask_bin hx hy) hd hk
 simp only [Z2,hx,hy,binD,if_neg (Int.not_lt.2 h0),Y9]
theorem Ops.shr {k k':IntKind} {m m':Int} (hx:Z1 X e x=some (.v (.int k m))) (hy:Z1 X e y=some (.v (.int k' m'))) (h0:0<=m') (hd:Nat.blt d n=true) (hk:Ops X n dr ops base (i+1) l (set e d (.v (.int k (m.fdiv (2 ^ min m'.toNat k.bits))))) G K) :
  Ops X n dr ops base i (⟨some d,.binOp .shr t1 x y t2,t,p,af,none⟩::l) e G K:=by
 refine .plain (G1:=G) ?_ (λ_=>ask_bin hx hy) hd hk
 simp only [Z2,hx,hy,binD,if_neg (Int.not_lt.2 h0),Y9]
theorem Ops.quo {k:IntKind} {m m':Int} (hx:Z1 X e x=some (.v (.int k m))) (hy:Z1 X e y=some (.v (.int k m'))) (h0:m'≠0) (hd:Nat.blt d n=true) (hk:Ops X n dr ops base (i+1) l (set e d (.v (.int k (k.wrap (m.tdiv m'))))) G K) :
  Ops X n dr ops base i (⟨some d,.binOp .quo t1 x y t2,t,p,af,none⟩::l) e G K :=
 .int hx hy rfl (by simp only [Z3r,if_neg h0]) hd hk
theorem Ops.rem {k:IntKind} {m m':Int} (hx:Z1 X e x=some (.v (.int k m))) (hy:Z1 X e y=some (.v (.int k m'))) (h0:m'≠0) (hd:Nat.blt d n=true) (hk:Ops X n dr ops base (i+1) l (set e d (.v (.int k (m.tmod m')))) G K) :
  Ops X n dr ops base i (⟨some d,.binOp .rem t1 x y t2,t,p,af,none⟩::l) e G K :=
 .int hx hy rfl (by simp only [Z3r,if_neg h0]) hd hk
theorem Ops.neB {b b':Bool} (hx:Z1 X e x=some (.v (.bool b))) (hy:Z1 X e y=some (.v (.bool b'))) (ht:X.P.underlying t1=some .bool) (hd:Nat.blt d n=true) (hk:Ops X n dr ops base (i+1) l (set e d (.v (.bool (b != b')))) G K) :
  Ops X n dr ops base i (⟨some d,.binOp .neq t1 x y t2,t,p,af,none⟩::l) e G K:=by
 refine .plain (G1:=G) ?_ (λ_=>ask_bin hx hy) hd hk
 simp only [Z2,hx,hy,binD,Z4C,if_true,eqD,ht,Y9]
 rfl
theorem Ops.not {b:Bool} (hx:Z1 X e x=some (.v (.bool b))) (hd:Nat.blt d n=true) (hk:Ops X n dr ops base (i+1) l (set e d (.v (.bool (!b)))) G K):Ops X n dr ops base i (⟨some d,.unOp .not t1 x,t,p,af,none⟩::l) e G K :=
 .plain (by simp only [Z2,hx,Y1,unD,Y9]) (λ_=>Z04 rfl) hd hk
theorem Ops.neg {k:IntKind} {m:Int} (hx:Z1 X e x=some (.v (.int k m))) (hd:Nat.blt d n=true) (hk:Ops X n dr ops base (i+1) l (set e d (.v (.int k (k.wrap (0-m))))) G K):Ops X n dr ops base i (⟨some d,.unOp .neg t1 x,t,p,af,none⟩::l) e G K :=
 .plain (by simp only [Z2,hx,Y1,unD,Y9]) (λ_=>Z04 rfl) hd hk
theorem Ops.conv {k k':IntKind} {m:Int} {de:TypeDesc} (hx:Z1 X e x=some (.v (.int k m))) (h1:X.P.underlying t1=some de) (h2:tint X.P t2=some k') (hd:Nat.blt d n=true) (hk:Ops X n dr ops base (i+1) l (set e d (.v (.int k' (k'.wrap m)))) G K):Ops X n dr ops base i (⟨some d,.convert t1 t2 x,t,p,af,none⟩::l) e G K :=
 .plain (by simp only [Z2,hx,Y1,convD,h1,h2,Y9]) (λ_=>Z04 rfl) hd hk
theorem Ops.pickT {c:Operand} (hc:Z1 X e c=some (.v (.bool true))) (hx:Z1 X e x=some v) (hd:Nat.blt d n=true) (hk:Ops X n dr ops base (i+1) l (set e d v) G K):Ops X n dr ops base i (⟨some d,.pick c x y,t,p,af,none⟩::l) e G K :=
 .plain (by simp only [Z2,hc,hx,Y9]) (λ_=>Z04 rfl) hd hk
theorem Ops.pickF {c:Operand} (hc:Z1 X e c=some (.v (.bool false))) (hx:Z1 X e y=some v) (hd:Nat.blt d n=true) (hk:Ops X n dr ops base (i+1) l (set e d v) G K):Ops X n dr ops base i (⟨some d,.pick c x y,t,p,af,none⟩::l) e G K :=
 .plain (by simp only [Z2,hc,hx,Y9]) (λ_=>Z04 rfl) hd hk
theorem Ops.extract {vs:List PV} {j:Nat} (hx:Z1 X e x=some (.tup vs)) (hj:vs[j]? = some v) (hd:Nat.blt d n=true) (hk:Ops X n dr ops base (i+1) l (set e d v) G K):Ops X n dr ops base i (⟨some d,.extract x j,t,p,af,none⟩::l) e G K :=
 .plain (by simp only [Z2,hx,hj,Y9]) (λ_=>Z04 rfl) hd hk
end
def Z2m:PV->Bool
 | .tup xs=>xs.all PV.pure
 | x=>x.pure
theorem Z1r {x:PV} (h:x.pure=true):Z07 G x=some (x,G):=by
 have:=Z3W (G:=G) h
 cases x<;>simp [PV.pure] at h<;>exact this
theorem Z3J:∀ {xs:List PV},xs.all PV.pure=true->Z0M G xs=some (xs,G)
 | [],_=>rfl
 | x::xs,h=>by
  simp only [Ye,Y8] at h;simp [Z0M,Z1r h.1,Z3J h.2]
theorem Z6B {x:PV} (h:Z2m x=true):Z05 G x=some (x,G):=by
 cases x with
 | tup xs=>simp only [Z2m] at h;simp [Z05,Z3J h]
 | v y=>exact Z1r (x:=.v y) h
 | fptr y=>exact Z1r (x:=.fptr y) h
 | agg y=>exact Z1r (x:=.agg y) h
 | _=>simp [Z2m,PV.pure] at h
structure Ends (X:Ctx) (rs:List ResultVar) (r:PV) (x:Ex) (e:Env) (G:Heap):Prop where
 out:(x = .normal\/x = .ret)/\∃ xs G',ZY X.P e G rs=some xs/\Z05 G (Z0J xs)=some (r,G')
theorem Ends.ret {rs:List ResultVar} {xs:List PV} {r:PV} (h:ZY X.P e G rs=some xs) (hp:Z2m (Z0J xs)=true) (hr:Z0J xs=r):Ends X rs r .ret e G :=
 ⟨.inr rfl,xs,G,h,by rw [<- hr];exact Z6B hp⟩
theorem Ends.normal {rs:List ResultVar} {xs:List PV} {r:PV} (h:ZY X.P e G rs=some xs) (hp:Z2m (Z0J xs)=true) (hr:Z0J xs=r):Ends X rs r .normal e G :=
 ⟨.inl rfl,xs,G,h,by rw [<- hr];exact Z6B hp⟩
theorem Fn.ends {f:FuncId} {args:List PV} {r:PV} {fu:Func} {c:Code} {m:Nat} (hf:X.P.funcs[f]? = some fu) (hb:fu.body=some c) (hi:X.intr f args=none) (hk:X.keep f=false) (ho:X.opn f=false) (hp:args.all PV.pure=true) (hm:max fu.ntmps args.length=m)
  (h:Runs X m f c (Z2t args) ⟨0,λ_=>.none⟩ (Ends X fu.results.toList r)) (hq:X.prim f=none:=by rfl):Fn X f args r :=
 .of hf hb hi hk ho hp (by subst hm;exact h.mono λ_ _ _ hx=>hx.out) hq
end Go.Dn

namespace Go.Dn
open Go Go.RowKit
variable {X:Ctx} {n:Nat} {fn:FuncId} {c:Code} {e:Env} {Q:Ex->Env->Heap->Prop}
theorem callL_ok (hX:CtxOK X):Z1h X (Zm X):=λc args r G' s h hi hG vs hv=>by
 obtain ⟨k,hk⟩:=Z0A.1 h
 exact Z51 hX k c args r G' s hk hi hG vs hv
theorem Z6w:Z08 (Zm X):=λc args G r G' h=>by
 obtain ⟨k,hk⟩:=Z0A.1 h
 exact Z3Q k c args G r G' hk
theorem callL_pure:CallPure X (Zm X) where
 calm:=λf args G r G' h hp ho hk=>by
  obtain ⟨k,h1⟩:=Z0A.1 h;obtain ⟨h2,h3⟩:=(Z39 k).calm f args G r G' h1 hp ho hk;exact ⟨h2,λG2=>Z0A.2 ⟨k,h3 G2⟩⟩
 shut:=λf args G r G' h hs hk ho hp=>by
  obtain ⟨k,h1⟩:=Z0A.1 h;obtain ⟨h2,h3⟩:=(Z39 k).shut f args G r G' h1 hs hk ho hp;exact ⟨h2,λG2 h4 h5=>Z0A.2 ⟨k,h3 G2 h4 h5⟩⟩
 fresh:=λf args G r G' h hs ho hk hp=>by
  obtain ⟨k,h1⟩:=Z0A.1 h;obtain ⟨ρ,h2,h3,h4,h5⟩:=(Z39 k).fresh f args G r G' h1 hs ho hk hp;exact ⟨ρ,h2,h3,h4,λG2 hn=>Z0A.2 ⟨k,h5 G2 hn⟩⟩
theorem code_wp (hX:CtxOK X) {s:St} {a:Act} (hG:Zp X s) (hi:Inv s) (he:EnvR s n e a) (h:Runs X n fn c e s.G Q) :
  c.wp X.P (λex a' w'=>∃ x e' G' D',Q x e' G'/\ex=x.out/\Aft s n a e' G' a' w' D') a s.w:=by
 obtain ⟨lf,x,e',G',h1,h2⟩:=h.run
 exact (wpIn_wide (n:=0)).1 (code_ok (rd:=none) hX.prog.mixed (callL_ok hX) Z6w callL_pure c hG hi he (λl hl=>by cases hl) h1 λa' w' D' ht=>⟨x,e',G',D',h2,rfl,ht⟩)
def St.start (w:World):St:=⟨w,λ_=>False,Heap.empty,λ_=>0⟩
theorem start_inv (w:World):Inv (St.start w) :=
 ⟨λ_=>trivial,λ_ _ h=>absurd h Z0f,λ_ h=>absurd h Z0f,λ_ _ _ h=>(by cases h),λ_ _=>rfl,λ_ h=>h.elim⟩
theorem start_imm {w:World} {b:Nat} (h:b<w.heap.size):(St.start w).imm b:=⟨h,λh=>h,λ_ h=>absurd h Z0f⟩
theorem start_below {w w':World} {G':Heap} {D':Nat->Nat} (h:Ev (St.start w) ⟨w',λ_=>False,G',D'⟩):Below w.heap.size w w' where
 os:=h.os
 tape:=h.tape
 output:=h.output
 size:=h.size
 block:=λk hk=>h.keep k hk λid hl=>absurd hl Z0f
theorem law_calls (hX:CtxOK X) {f:FuncId} {args:List PV} {vs:Array Value} {w:World} (h:Fn X f args (.v (.bool true))) (hG:Zp X (St.start w)) (hv:PVRs (St.start w) args vs) :
  Calls X.P f vs w λe w'=>e = .returned (.bool true)/\Below w.heap.size w w':=by
 have h1:=callL_ok hX (.fn f) args (.v (.bool true)) Heap.empty (St.start w) (h.call _) (start_inv w) hG vs hv
 refine h1.2.mono λe w' ⟨v,he,D',_,h3,h4⟩=>?_
 have:=Z0s h4
 subst this
 exact ⟨he,start_below h3⟩
theorem leaves_ok {fu:Func} {s0:St} {a0 a':Act} {e1:Env} {G1:Heap} {w':World} {D':Nat->Nat} {xs:List PV} (hd0:a0.defers=[]) (ht:Aft s0 n a0 e1 G1 a' w' D') (h2:ZY X.P e1 G1 fu.results.toList=some xs) {R:Ending->World->Prop}
  (hR:∀ v w',Post s0 (Z0J xs) G1 v w'->R (.returned v) w'):LeavesInM (Fw none) 0 X.P fu a'.tmps R a'.defers .returning w':=by
 obtain ⟨ms,hd,hmk⟩:=ht.marks
 have hd:a'.defers=ms.map mark:=by simpa [hd0] using hd
 have hml:∀ r∈ms,w'.heap[r]? = some (.deferred (some [])):=λr hr=>(hmk.2 r hr).2.2
 obtain ⟨g1,g2,g3,g4,g5⟩:=Z4k ms w'
 have hi2:=shut_inv (s:=⟨w',s0.Y,G1,D'⟩) g1 g2 hml ht.inv
 have he2:EnvR ⟨shut w' ms,s0.Y,G1,D'⟩ n e1 a':=⟨ht.env.1,λt=>Z59 (s:=⟨w',s0.Y,G1,D'⟩) g1 g2 hml (ht.env.2 t)⟩
 have hev2:=shut_ev ht.ev g1 g2 (λr hr=>(hmk.2 r hr).1) g3 g4 g5
 obtain ⟨v,h3,h4⟩:=Z6l (X:=X) hi2 he2 h2
 rw [hd]
 exact Z3S ms w' hmk.1 hml ⟨v,h3,hR _ _ ⟨D',hi2,hev2,h4⟩⟩
end Go.Dn

namespace Go.Dn
open Go
inductive Res where
 | blk (id:Nat) (t:TypeId) (cells:List PV)
 | sl (v:PV) (e:TypeId) (sz:Nat) (xs:List (List FV)) (live:Bool)
 | floor (m:Nat)
 | hole (id:Nat)
 | loop (id:Nat) (fn:FuncId) (e:Env) (n:Nat) (ps:List Nat) (as_ bo:Code) (st:LoopState) (pd:Option Code)
 | mp (id:Nat) (kv:List (Int×Int))
 | fix (id:Nat) (en:Ent)
def PV.owner:PV->Option Nat
 | .buf id _ _=>some id
 | .view id _ _ _ _=>some id
 | _=>none
def Res.owner:Res->Option Nat
 | .blk id _ _=>some id
 | .sl v _ _ _ _=>v.owner
 | .floor _=>none
 | .hole id=>some id
 | .loop id _ _ _ _ _ _ _ _=>some id
 | .mp id _=>some id
 | .fix id _=>some id
def Res.holds (G:Heap):Res->Prop
 | .blk id t cells=>G.ent id = .blk t cells true
 | .sl v e sz xs live=>(∀ y∈xs,y.length=sz)/\((v = .nils/\xs=[])\/∃ id,v = .buf id xs.length sz/\G.ent id = .blk e (vs xs.flatten) live)
 | .floor m=>m<=G.nx
 | .hole _=>True
 | .loop id fn e n ps as_ bo st pd=>G.ent id = .loop fn e n ps as_ bo st pd
 | .mp id kv=>G.ent id = .map kv
 | .fix id en=>G.ent id=en
structure Has (G:Heap) (lo hi:Nat) (L:List Res):Prop where
 holds:∀ (k:Nat) (r:Res),L[k]? = some r->r.holds G
 lt:∀ (k:Nat) (r:Res),L[k]? = some r->∀ id,r.owner=some id->(id<lo\/hi<=id)/\id<G.nx
 sep:∀ (j k:Nat) (r s:Res),j≠k->L[j]? = some r->L[k]? = some s->∀ id,r.owner=some id->s.owner≠some id
 le:hi<=G.nx
section
variable {G:Heap} {lo hi:Nat} {L:List Res} {k:Nat} {r:Res}
theorem Has.nil (h:hi<=G.nx):Has G lo hi []:=⟨by simp,by simp,by simp,h⟩
theorem Has.weak (H:Has G lo hi L) {lo' hi':Nat} (h1:lo<=lo') (h2:hi'<=hi):Has G lo' hi' L :=
 ⟨H.holds,λk r hk id ho=>⟨(H.lt k r hk id ho).1.imp (λh=>by omega) (λh=>by omega),(H.lt k r hk id ho).2⟩,H.sep,by have:=H.le;omega⟩
theorem Has.all (H:Has G lo hi L):Has G G.nx G.nx L :=
 ⟨H.holds,λk r hk id ho=>⟨.inl (H.lt k r hk id ho).2,(H.lt k r hk id ho).2⟩,H.sep,YA _⟩
theorem Has.erase (H:Has G lo hi L) (k:Nat):Has G lo hi (L.eraseIdx k):=by
 have key:∀ (j:Nat) (r:Res),(L.eraseIdx k)[j]? = some r->L[if j<k then j else j+1]? = some r:=by
  intro j r h;rw [List.getElem?_eraseIdx] at h
  by_cases hj:j<k
  ·rw [if_pos hj] at h ⊢;exact h
  ·rw [if_neg hj] at h ⊢;exact h
 refine ⟨λj r h=>H.holds _ r (key j r h),λj r h=>H.lt _ r (key j r h),λi j r s hij h1 h2=>H.sep _ _ r s ?_ (key i r h1) (key j s h2),H.le⟩
 split<;>split<;>omega
theorem Z3K {id:Nat} {en:Ent} (h:r.holds G) (ho:r.owner≠some id):r.holds (G.put id en):=by
 cases r with
 | blk id' t cells=>
  have:id'≠id:=λe=>ho (by rw [e];rfl)
  show upd G.ent id en id'=_;rw [ZH _ _ this];exact h
 | sl v e sz xs live=>
  refine ⟨h.1,h.2.imp (λh=>h) λ⟨id',hv,hb⟩=>⟨id',hv,?_⟩⟩;have:id'≠id:=λe=>ho (by rw [hv,e];rfl)
  show upd G.ent id en id'=_;rw [ZH _ _ this];exact hb
 | floor m=>exact h
 | hole id'=>trivial
 | loop id' fn e n ps as_ bo st pd=>
  have:id'≠id:=λe=>ho (by rw [e];rfl)
  show upd G.ent id en id'=_;rw [ZH _ _ this];exact h
 | mp id' kv=>
  have:id'≠id:=λe=>ho (by rw [e];rfl)
  show upd G.ent id en id'=_;rw [ZH _ _ this];exact h
 | fix id' en'=>
  have:id'≠id:=λe=>ho (by rw [e];rfl)
  show upd G.ent id en id'=_;rw [ZH _ _ this];exact h
theorem Z14 {id:Nat} {en:Ent}:(G.put id en).ent id=en:=Z7 _ _ _
theorem Has.put (H:Has G lo hi L) {id:Nat} {en:Ent} {r':Res} (hk:L[k]? = some r) (ho:r.owner=some id) (hr:r'.holds (G.put id en)) (ho':r'.owner=some id):Has (G.put id en) lo hi (L.set k r'):=by
 have key:∀ (j:Nat) (s:Res),(L.set k r')[j]? = some s->(j=k/\s=r')\/(j≠k/\L[j]? = some s):=by
  intro j s h;rw [Y0N] at h
  by_cases hj:k=j
  ·subst hj;rw [if_pos rfl] at h
   split at h
   ·cases h;exact .inl ⟨rfl,rfl⟩
   ·cases h
  ·rw [if_neg hj] at h;exact .inr ⟨λe=>hj e.symm,h⟩
 refine ⟨λj s h=>?_,λj s h id' ho2=>?_,λi j s t hij h1 h2 id' hs=>?_,H.le⟩
 ·rcases key j s h with ⟨_,rfl⟩|⟨hj,h⟩
  ·exact hr
  ·exact Z3K (H.holds j s h) (H.sep k j r s (λe=>hj e.symm) hk h id ho)
 ·rcases key j s h with ⟨_,rfl⟩|⟨hj,h⟩
  ·rw [ho'] at ho2;cases ho2;exact H.lt k r hk id ho
  ·exact H.lt j s h id' ho2
 ·rcases key i s h1 with ⟨hi',rfl⟩|⟨hi',h1'⟩
  ·rw [ho'] at hs;cases hs;rcases key j t h2 with ⟨hj,rfl⟩|⟨hj,h2'⟩
   ·omega
   ·exact H.sep k j r t (λe=>hj e.symm) hk h2' id ho
  ·rcases key j t h2 with ⟨hj,rfl⟩|⟨hj,h2'⟩
   ·intro e;rw [ho'] at e;cases e;exact H.sep i k s r hi' h1' hk id hs ho
   ·exact H.sep i j s t hij h1' h2' id' hs
theorem Has.push (H:Has G lo hi L) {b:Nat} {en:Ent} {r':Res} (hlo:lo<=b) (hhi:b<hi) (hr:r'.holds (G.put b en)) (ho:r'.owner=some b):Has (G.put b en) (b+1) hi (r'::L):=by
 have hle:=H.le
 have hne:∀ (j:Nat) (s:Res),L[j]? = some s->s.owner≠some b:=λj s h e=>by
  have:=(H.lt j s h b e).1;omega
 refine ⟨λj s h=>?_,λj s h id' ho2=>?_,λi j s t hij h1 h2 id' hs=>?_,hle⟩
 ·cases j with
  | zero=>cases h;exact hr
  | succ j=>exact Z3K (H.holds j s h) (hne j s h)
 ·cases j with
  | zero=>cases h;rw [ho] at ho2;cases ho2;exact ⟨.inl (by omega),show _<G.nx by omega⟩
  | succ j=>
   have:=H.lt j s h id' ho2;exact ⟨by omega,this.2⟩
 ·cases i with
  | zero=>
   cases h1;rw [ho] at hs;cases hs;cases j with
   | zero=>exact absurd rfl hij
   | succ j=>exact hne j t h2
  | succ i=>
   cases j with
   | zero=>
    cases h2;intro e;rw [ho] at e;cases e;exact hne i s h1 hs
   | succ j=>exact H.sep i j s t (λe=>hij (by rw [e])) h1 h2 id' hs
theorem Has.pushNil (H:Has G lo hi L) (e:TypeId) (sz:Nat) (live:Bool):Has G lo hi (.sl .nils e sz [] live::L):=by
 refine ⟨λj s h=>?_,λj s h id' ho2=>?_,λi j s t hij h1 h2 id' hs=>?_,H.le⟩
 ·cases j with
  | zero=>cases h;exact ⟨by simp,.inl ⟨rfl,rfl⟩⟩
  | succ j=>exact H.holds j s h
 ·cases j with
  | zero=>cases h;cases ho2
  | succ j=>exact H.lt j s h id' ho2
 ·cases i with
  | zero=>cases h1;cases hs
  | succ i=>
   cases j with
   | zero=>cases h2;intro e;cases e
   | succ j=>exact H.sep i j s t (λe=>hij (by rw [e])) h1 h2 id' hs
theorem Has.blk (H:Has G lo hi L) {id:Nat} {t:TypeId} {cells:List PV} (hk:L[k]? = some (.blk id t cells)):G.ent id = .blk t cells true:=H.holds k _ hk
theorem Has.cur (H:Has G lo hi L) {id:Nat} {t:TypeId} {cells:List PV} {ver:Nat} (hk:L[k]? = some (.blk id t cells)) (hv:cells.length=ver):G.cur id ver=true:=by
 simp only [Heap.cur,H.blk hk,hv,beq_self_eq_true]
end
def Seen (ops:Array Oper) (base i id:Nat) (w:Bool):Prop :=
 (id<base/\(w=true->Z5l (Region.before ops) ops i=false)/\(w=false->Z2p (Region.before ops) ops i=true))\/∃ j,id=base+j/\(w=false->Z2A (Region.before ops) ops i=false)/\((Region.before ops).getD i 0).testBit j=true/\j<ops.size
section
variable {X:Ctx} {n:Nat} {dr:Bool} {fn:FuncId} {ops:Array Oper} {base i:Nat} {l:List Oper} {e:Env} {G:Heap} {K:Env->Heap->Prop} {Q:Ex->Env->Heap->Prop} {c a b:Code}
variable {d:Nat} {t t1 t2:TypeId} {p:String} {af:Array Edge} {x y:Operand} {v:PV} {lo hi:Nat} {L:List Res}
theorem Z0b {o:Oper} {ids:List Nat} (h:Zh o.op = .read) (ht:touched X e o.op=ids) (hs:∀ id∈ids,Seen ops base i id false):ZK X ops base i o e=true:=by
 refine ask0 ?_
 simp only [ZO,h]
 rw [Y8]
 refine ⟨?_,?_⟩
 ·rw [ht,YC];intro id hid;rcases hs id hid with ⟨h1,_⟩|⟨j,rfl,h1,h2,h3⟩
  ·simp [h1]
  ·simp only [Yo,h1 rfl,h2,Y0Y,Yi,Bool.true_and,Yj,decide_eq_true_eq];exact .inr (by omega)
 ·cases ids with
  | nil=>rw [ht];simp
  | cons a l=>
   have:Z2p (Region.before ops) ops i=true:=by
    rcases hs a (by simp) with ⟨_,_,h1⟩|⟨j,_,h1,_⟩
    ·exact h1 rfl
    ·unfold Z2p;simp [h1 rfl]
   simp [this]
def SeenR (X:Ctx) (e:Env) (ops:Array Oper) (base id:Nat) (op:Op):Prop:=id<base/\∃ ids,Z0y X ops e op=ids/\id∈ids
def SeenW (X:Ctx) (e:Env) (ops:Array Oper) (base i id:Nat):Prop :=
 (id<base/\Z17 X e (Region.before ops) ops i id=false)\/∃ j,id=base+j/\((Region.before ops).getD i 0).testBit j=true/\j<ops.size
theorem Z1O {k:Nat} (h:Z5l (Region.before ops) ops i=false):Z17 X e (Region.before ops) ops i k=false:=by
 unfold Z5l at h
 unfold Z17
 rw [List.any_eq_false] at h ⊢
 intro j hj
 have:=h j hj
 cases ho:ops[j]? with
 | none=>simp
 | some o=>
  rw [ho] at this;simp only [Y8,not_and,Y06] at this ⊢;intro hu hr;rw [this hu] at hr;cases hr
inductive Elsewhere (X:Ctx) (e:Env) (ops:Array Oper) (id:Nat):List Nat->Prop
 | nil:Elsewhere X e ops id []
 | cons {j:Nat} {o:Oper} {ids js:List Nat} (h1:ops[j]? = some o) (h2:Z0y X ops e o.op=ids) (h3:∀ x∈ids,id≠x) (t:Elsewhere X e ops id js):Elsewhere X e ops id (j::js)
theorem Has.ne {j k:Nat} {r s:Res} {a b:Nat} (H:Has G lo hi L) (hj:L[j]? = some r) (hk:L[k]? = some s) (hjk:Nat.beq j k=false) (ha:r.owner=some a) (hb:s.owner=some b):a≠b:=λh=>
 H.sep j k r s (λe=>by subst e;simp at hjk) hj hk a ha (h▸hb)
theorem ask_seenW {o:Oper} {id:Nat} (h:Zh o.op = .write) (ht:touched X e o.op=[id]) (hs:SeenW X e ops base i id):ZK X ops base i o e=true:=by
 refine ask0 ?_
 simp only [ZO,h,ht,Ye,List.all_nil,Bool.and_true]
 rcases hs with ⟨h1,h0⟩|⟨j,rfl,h2,h3⟩
 ·simp [h1,h0]
 ·simp only [Yo,h2,Yj,Y8,decide_eq_true_eq];exact .inr ⟨⟨by omega,trivial⟩,by omega⟩
theorem Z3T {o:Oper} {ids:List Nat} (h:Zh o.op = .write) (ht:touched X e o.op=ids) (hs:∀ id∈ids,Seen ops base i id true):ZK X ops base i o e=true:=by
 refine ask0 ?_
 simp only [ZO,h,ht,YC]
 intro id hid
 rcases hs id hid with ⟨h1,h0⟩|⟨j,rfl,h1,h2,h3⟩
 ·simp [h1,Z1O (h0.1 rfl)]
 ·simp only [Yo,h2,Yj,Y8,decide_eq_true_eq];exact .inr ⟨⟨by omega,trivial⟩,by omega⟩
theorem Ops.boxH {cs:List PV} (H:Has G lo hi L) (hlo:lo<=base+i) (hhi:base+i<hi) (hx:Z1 X e x=some v) (hc:v.cells=some cs) (hd:Nat.blt d n=true)
  (hk:∀ G',Has G' (base+i+1) hi (.blk (base+i) t1 cs::L)->Ops X n dr ops base (i+1) l (set e d (.ptr (base+i) cs.length 0)) G' K) :
  Ops X n dr ops base i (⟨some d,.box t1 x,t,p,af,none⟩::l) e G K :=
 .plain (x:=.ptr (base+i) cs.length 0) (G1:=G.put (base+i) (.blk t1 cs true)) (by simp only [Z2,hx,Y1,hc,Y9,newD]) (λ_=>Z04 rfl) hd
  (hk _ (H.push hlo hhi (r':=.blk (base+i) t1 cs) Z14 rfl))
theorem Ops.allocH {cs:List PV} (H:Has G lo hi L) (hlo:lo<=base+i) (hhi:base+i<hi) (hz:tzero X.P t1=some cs) (hd:Nat.blt d n=true)
  (hk:∀ G',Has G' (base+i+1) hi (.blk (base+i) t1 cs::L)->Ops X n dr ops base (i+1) l (set e d (.ptr (base+i) cs.length 0)) G' K) :
  Ops X n dr ops base i (⟨some d,.alloc t1,t,p,af,none⟩::l) e G K :=
 .plain (x:=.ptr (base+i) cs.length 0) (G1:=G.put (base+i) (.blk t1 cs true)) (by simp only [Z2,hz,Y9,newD]) (λ_=>Z04 rfl) hd
  (hk _ (H.push hlo hhi (r':=.blk (base+i) t1 cs) Z14 rfl))
theorem Ops.ZA {id ver off f fo:Nat} {ft:TypeId} {m:Nat} {te:TypeId} {cells:List PV} (H:Has G lo hi L) (k:Nat) (hk:L[k]? = some (.blk id te cells)) (hv:cells.length=ver) (hx:Z1 X e x=some (.ptr id ver off))
  (hf:tfield X.P t1 f=some (fo,ft)) (hs:tsize X.P ft=some (m+1)) (ha:dr=true->Seen ops base i id false) (hd:Nat.blt d n=true)
  (hk':Ops X n dr ops base (i+1) l (set e d (.ptr id ver (off+fo))) G K):Ops X n dr ops base i (⟨some d,.fieldAddr t1 x f,t,p,af,none⟩::l) e G K:=by
 refine .plain (x:=.ptr id ver (off+fo)) (G1:=G) ?_ (λh=>Z0b (ids:=[id]) rfl ?_ (λj hj=>by simp at hj;subst hj;exact ha h)) hd hk'
 ·simp only [Z2,hx,Y1,Z0C,hf,hs,H.cur hk hv,if_true,Y9]
 ·simp only [touched,ZF,YE,YG,hx,vids,YK]
theorem Ops.Z1R {id ver off:Nat} {te:TypeId} {cells:List PV} (H:Has G lo hi L) (k:Nat) (hk:L[k]? = some (.blk id te cells)) (hv:cells.length=ver) (hx:Z1 X e x=some (.ptr id ver off))
  (hg:tagg X.P t1=some false) (hc:cells[off]? = some v) (ha:dr=true->Seen ops base i id false) (hd:Nat.blt d n=true)
  (hk':Ops X n dr ops base (i+1) l (set e d v) G K):Ops X n dr ops base i (⟨some d,.load t1 x,t,p,af,none⟩::l) e G K:=by
 refine .plain (x:=v) (G1:=G) ?_ (λh=>Z0b (ids:=[id]) rfl ?_ (λj hj=>by simp at hj;subst hj;exact ha h)) hd hk'
 ·simp only [Z2,hx,Y1,Z0l,H.blk hk,hv,if_true,hg,hc,Y9]
 ·simp only [touched,ZF,YE,YG,hx,vids,YK]
theorem Ops.loadHA {id ver off m:Nat} {te:TypeId} {cells cs:List PV} (H:Has G lo hi L) (k:Nat) (hk:L[k]? = some (.blk id te cells)) (hv:cells.length=ver) (hx:Z1 X e x=some (.ptr id ver off))
  (hg:tagg X.P t1=some true) (hm:tsize X.P t1=some m) (hl:Nat.ble (off+m) cells.length=true) (hc:(cells.drop off).take m=cs) (ha:dr=true->Seen ops base i id false) (hd:Nat.blt d n=true)
  (hk':Ops X n dr ops base (i+1) l (set e d (.agg cs)) G K):Ops X n dr ops base i (⟨some d,.load t1 x,t,p,af,none⟩::l) e G K:=by
 refine .plain (x:=.agg cs) (G1:=G) ?_ (λh=>Z0b (ids:=[id]) rfl ?_ (λj hj=>by simp at hj;subst hj;exact ha h)) hd hk'
 ·have hl:off+m<=cells.length:=Ym hl;have h2:off+m<=ver:=hv▸hl;simp only [Z2,hx,Y1,Z0l,H.blk hk,hv,if_true,hg,hm,h2,hc,Y9]
 ·simp only [touched,ZF,YE,YG,hx,vids,YK]
theorem Ops.Z3a {id ver off m:Nat} {te:TypeId} {cells ys cells':List PV} (H:Has G lo hi L) (k:Nat) (hk:L[k]? = some (.blk id te cells)) (hv:cells.length=ver) (hx:Z1 X e x=some (.ptr id ver off))
  (hy:Z1 X e y=some v) (hc:v.cells=some ys) (hm:tsize X.P t1=some m) (hl:ys.length=m) (hle:Nat.ble (off+m) cells.length=true) (hc':splice cells off ys=cells')
  (ha:dr=true->SeenW X e ops base i id)
  (hk':∀ G',Has G' lo hi (L.set k (.blk id te cells'))->Ops X n dr ops base (i+1) l e G' K):Ops X n dr ops base i (⟨none,.store t1 x y,t,p,af,none⟩::l) e G K:=by
 refine .plain0 (x:=.undef) (G1:=G.put id (.blk te cells' true)) ?_ (λh=>ask_seenW (id:=id) rfl ?_ (ha h)) (hk' _ (H.put hk rfl (r':=.blk id te cells') Z14 rfl))
 ·have hle:off+m<=cells.length:=Ym hle;simp only [Z2,hx,hy,Z18,H.blk hk,hv,if_true,hm,hc,hl,hc'];rw [if_pos ⟨trivial,hv▸hle⟩]
  rfl
 ·simp only [touched,ZF,YE,YG,hx,vids,YK]
theorem Ops.Z0I {f fo:Nat} {ft:TypeId} {m:Nat} {cells:List FV} (hx:Z1 X e x=some (.fptr cells)) (hf:tfield X.P t1 f=some (fo,ft)) (hs:tsize X.P ft=some (m+1)) (hd:Nat.blt d n=true)
  (hk':Ops X n dr ops base (i+1) l (set e d (.fptr (cells.drop fo))) G K):Ops X n dr ops base i (⟨some d,.fieldAddr t1 x f,t,p,af,none⟩::l) e G K:=by
 refine .plain (x:=.fptr (cells.drop fo)) (G1:=G) ?_ (λh=>Z1H rfl ?_) hd hk'
 ·simp only [Z2,hx,Y1,Z0C,hf,hs,Y9]
 ·simp only [touched,ZF,YE,YG,hx,vids,YK]
theorem Ops.loadP {u:FV} {cells:List FV} (hx:Z1 X e x=some (.fptr cells)) (hg:tagg X.P t1=some false) (hc:cells[0]? = some u) (hd:Nat.blt d n=true)
  (hk':Ops X n dr ops base (i+1) l (set e d (.v u)) G K):Ops X n dr ops base i (⟨some d,.load t1 x,t,p,af,none⟩::l) e G K:=by
 refine .plain (x:=.v u) (G1:=G) ?_ (λh=>Z1H rfl ?_) hd hk'
 ·simp only [Z2,hx,Y1,Z0l,hg,hc,Y9]
 ·simp only [touched,ZF,YE,YG,hx,vids,YK]
theorem Ops.loadPA {m:Nat} {cells cs:List FV} (hx:Z1 X e x=some (.fptr cells)) (hg:tagg X.P t1=some true) (hm:tsize X.P t1=some m) (hl:Nat.ble m cells.length=true) (hc:cells.take m=cs) (hd:Nat.blt d n=true)
  (hk':Ops X n dr ops base (i+1) l (set e d (.agg (vs cs))) G K):Ops X n dr ops base i (⟨some d,.load t1 x,t,p,af,none⟩::l) e G K:=by
 refine .plain (x:=.agg (vs cs)) (G1:=G) ?_ (λh=>Z1H rfl ?_) hd hk'
 ·have hl:m<=cells.length:=Ym hl;simp only [Z2,hx,Y1,Z0l,hg,hm,hl,if_true,hc,Y9]
 ·simp only [touched,ZF,YE,YG,hx,vids,YK]
def at? {α:Type} (l:List α) (i:Int):Option α:=if 0<=i then l[i.toNat]? else none
theorem at?_some {α:Type} {l:List α} {i:Int} {a:α} (h:at? l i=some a):0<=i/\l[i.toNat]? = some a:=by
 unfold at? at h
 split at h
 ·exact ⟨by assumption,h⟩
 ·cases h
theorem Ops.indexP {α:Type} {c:α->List FV} {xs:List α} {iv:Int} {ik:IntKind} {u:α} {el:TypeId} {m:Nat} (hx:Z1 X e x=some (.v (.sl (xs.map c)))) (hy:Z1 X e y=some (.v (.int ik iv))) (hu:at? xs iv=some u)
  (ht:tslice X.P t1=some el) (hs:tsize X.P el=some m) (hm:(c u).length=m) (hd:Nat.blt d n=true)
  (hk':Ops X n dr ops base (i+1) l (set e d (.fptr (c u))) G K):Ops X n dr ops base i (⟨some d,.indexAddr t1 x y,t,p,af,none⟩::l) e G K:=by
 obtain ⟨h0,hu⟩:=at?_some hu
 have hu':(xs.map c)[iv.toNat]? = some (c u):=by rw [YI,hu];rfl
 refine .plain (x:=.fptr (c u)) (G1:=G) ?_ (λh=>Z1H rfl ?_) hd hk'
 ·simp only [Z2,hx,hy,Z01,Z2x,if_pos h0,ht,Y1,hs,hu',hm,if_true,Y9]
 ·simp only [touched,ZF,YE,YG,hx,vids,YK]
theorem Ops.lenP {xs:List (List FV)} {af2:Array TypeId} {el:TypeId} (hx:Z1 X e x=some (.v (.sl xs))) (ht:tslice X.P t1=some el) (hd:Nat.blt d n=true)
  (hk':Ops X n dr ops base (i+1) l (set e d (.v (.int .i64 xs.length))) G K):Ops X n dr ops base i (⟨some d,.call { callee:=.builtin .len,args:=#[x],argTypes:=#[t1] },t,p,af,none⟩::l) e G K:=by
 refine .plain (x:=.v (.int .i64 xs.length)) (G1:=G) ?_ (λh=>Z1H rfl ?_) hd hk'
 ·simp only [Z2,ZM,ZG,hx,Y1,Zg,lenD,ht,Y9]
 ·simp only [touched,ZF,YE,YG,hx,vids,YK]
end
end Go.Dn

namespace Go.Dn
open Go
section
variable {G:Heap} {lo hi:Nat} {L:List Res} {k:Nat} {r:Res}
theorem Has.sl (H:Has G lo hi L) {v:PV} {e:TypeId} {sz:Nat} {xs:List (List FV)} {live:Bool} (hk:L[k]? = some (.sl v e sz xs live)) :
  (∀ y∈xs,y.length=sz)/\((v = .nils/\xs=[])\/∃ id,v = .buf id xs.length sz/\G.ent id = .blk e (vs xs.flatten) live):=H.holds k _ hk
theorem Has.renew (H:Has G lo hi L) {b:Nat} {en:Ent} {r':Res} (hk:L[k]? = some r) (hlo:lo<=b) (hhi:b<hi) (hr:r'.holds (G.put b en)) (ho:r'.owner=some b):Has (G.put b en) (b+1) hi (L.set k r'):=by
 have hle:=H.le
 have hne:∀ (j:Nat) (s:Res),L[j]? = some s->s.owner≠some b:=λj s h e=>by
  have:=(H.lt j s h b e).1;omega
 have key:∀ (j:Nat) (s:Res),(L.set k r')[j]? = some s->(j=k/\s=r')\/(j≠k/\L[j]? = some s):=by
  intro j s h;rw [Y0N] at h
  by_cases hj:k=j
  ·subst hj;rw [if_pos rfl] at h
   split at h
   ·cases h;exact .inl ⟨rfl,rfl⟩
   ·cases h
  ·rw [if_neg hj] at h;exact .inr ⟨λe=>hj e.symm,h⟩
 refine ⟨λj s h=>?_,λj s h id' ho2=>?_,λi j s t hij h1 h2 id' hs=>?_,hle⟩
 ·rcases key j s h with ⟨_,rfl⟩|⟨hj,h⟩
  ·exact hr
  ·exact Z3K (H.holds j s h) (hne j s h)
 ·rcases key j s h with ⟨_,rfl⟩|⟨hj,h⟩
  ·rw [ho] at ho2;cases ho2;exact ⟨.inl (by omega),show _<G.nx by omega⟩
  ·have:=H.lt j s h id' ho2;exact ⟨by omega,this.2⟩
 ·rcases key i s h1 with ⟨hi',rfl⟩|⟨hi',h1'⟩
  ·rw [ho] at hs;cases hs;rcases key j t h2 with ⟨hj,rfl⟩|⟨hj,h2'⟩
   ·omega
   ·exact hne j t h2'
  ·rcases key j t h2 with ⟨hj,rfl⟩|⟨hj,h2'⟩
   ·intro e;rw [ho] at e;cases e;exact hne i s h1' hs
   ·exact H.sep i j s t hij h1' h2' id' hs
theorem Has.say (H:Has G lo hi L) {r':Res} (hk:L[k]? = some r) (hr:r'.holds G) (ho:r'.owner=r.owner):Has G lo hi (L.set k r'):=by
 have key:∀ (j:Nat) (s:Res),(L.set k r')[j]? = some s->(j=k/\s=r')\/(j≠k/\L[j]? = some s):=by
  intro j s h;rw [Y0N] at h
  by_cases hj:k=j
  ·subst hj;rw [if_pos rfl] at h
   split at h
   ·cases h;exact .inl ⟨rfl,rfl⟩
   ·cases h
  ·rw [if_neg hj] at h;exact .inr ⟨λe=>hj e.symm,h⟩
 refine ⟨λj s h=>?_,λj s h id' ho2=>?_,λi j s t hij h1 h2 id' hs=>?_,H.le⟩
 ·rcases key j s h with ⟨_,rfl⟩|⟨hj,h⟩
  ·exact hr
  ·exact H.holds j s h
 ·rcases key j s h with ⟨_,rfl⟩|⟨hj,h⟩
  ·rw [ho] at ho2;exact H.lt k r hk id' ho2
  ·exact H.lt j s h id' ho2
 ·rcases key i s h1 with ⟨hi',rfl⟩|⟨hi',h1'⟩
  ·rw [ho] at hs;rcases key j t h2 with ⟨hj,rfl⟩|⟨hj,h2'⟩
   ·omega
   ·exact H.sep k j r t (λe=>hj e.symm) hk h2' id' hs
  ·rcases key j t h2 with ⟨hj,rfl⟩|⟨hj,h2'⟩
   ·rw [ho];exact H.sep i k s r hi' h1' hk id' hs
   ·exact H.sep i j s t hij h1' h2' id' hs
theorem Has.same {G':Heap} (H:Has G lo hi L) (he:∀ id,id<G.nx->G'.ent id=G.ent id) (hn:G.nx<=G'.nx):Has G' lo hi L:=by
 refine ⟨λj s h=>?_,λj s h id ho=>⟨(H.lt j s h id ho).1,YL (H.lt j s h id ho).2 hn⟩,H.sep,YT H.le hn⟩
 have h1:=H.holds j s h
 have h2:=H.lt j s h
 cases s with
 | blk id t cells=>exact (he id (h2 id rfl).2).trans h1
 | sl v e sz xs live=>
  refine ⟨h1.1,h1.2.imp (λh=>h) λ⟨id,hv,hb⟩=>⟨id,hv,?_⟩⟩;exact (he id (h2 id (by rw [hv];rfl)).2).trans hb
 | floor m=>exact YT h1 hn
 | hole id=>trivial
 | loop id fn e n ps as_ bo st pd=>exact (he id (h2 id rfl).2).trans h1
 | mp id kv=>exact (he id (h2 id rfl).2).trans h1
 | fix id en=>exact (he id (h2 id rfl).2).trans h1
theorem Has.floor (H:Has G lo hi L) (m:Nat) (hm:m<=G.nx):Has G lo hi (.floor m::L):=by
 refine ⟨λj s h=>?_,λj s h id' ho2=>?_,λi j s t hij h1 h2 id' hs=>?_,H.le⟩
 ·cases j with
  | zero=>cases h;exact hm
  | succ j=>exact H.holds j s h
 ·cases j with
  | zero=>cases h;cases ho2
  | succ j=>exact H.lt j s h id' ho2
 ·cases i with
  | zero=>cases h1;cases hs
  | succ i=>
   cases j with
   | zero=>cases h2;intro e;cases e
   | succ j=>exact H.sep i j s t (λe=>hij (by rw [e])) h1 h2 id' hs
end
def pick (L:List Res) (ks:List Nat):List Res:=ks.filterMap (L[·]?)
theorem Has.pick {G:Heap} {lo hi:Nat} {L:List Res} (H:Has G lo hi L):∀ (ks:List Nat),ks.Nodup->Has G lo hi (Dn.pick L ks)
 | [],_=>Has.nil H.le
 | k::ks,hn=>by
  have hn:=List.nodup_cons.1 hn;have ih:=Has.pick H ks hn.2
  cases hr:L[k]? with
  | none=>simpa [Dn.pick,hr] using ih
  | some r=>
   have e:Dn.pick L (k::ks)=r::Dn.pick L ks:=by simp [Dn.pick,hr]
   rw [e];have mem:∀ (j:Nat) (s:Res),(Dn.pick L ks)[j]? = some s->∃ k',k'∈ks/\L[k']? = some s:=λj s h=>by
    have:=Y6 h;unfold Dn.pick at this;exact List.mem_filterMap.1 this
   refine ⟨λj s h=>?_,λj s h=>?_,λi j s t hij h1 h2=>?_,H.le⟩
   ·cases j with
    | zero=>cases h;exact H.holds k r hr
    | succ j=>exact ih.holds j s h
   ·cases j with
    | zero=>cases h;exact H.lt k r hr
    | succ j=>exact ih.lt j s h
   ·cases i with
    | zero=>
     cases h1;cases j with
     | zero=>exact absurd rfl hij
     | succ j=>
      obtain ⟨k',hk',h2'⟩:=mem j t h2;exact H.sep k k' r t (λe=>hn.1 (e▸hk')) hr h2'
    | succ i=>
     cases j with
     | zero=>
      cases h2;obtain ⟨k',hk',h1'⟩:=mem i s h1;exact H.sep k' k s r (λe=>hn.1 (e▸hk')) h1' hr
     | succ j=>exact ih.sep i j s t (λe=>hij (by rw [e])) h1 h2
theorem Z1l (xs ys:List FV):vs (xs++ys)=vs xs++vs ys:=Y03 ..
theorem Zw (xs:List FV):(vs xs).length=xs.length:=YU ..
theorem vs_get (xs:List FV) (j:Nat):(vs xs)[j]? = (xs[j]?).map .v:=YI ..
theorem vs_take (xs:List FV) (j:Nat):(vs xs).take j=vs (xs.take j):=(List.map_take ..).symm
theorem vs_drop (xs:List FV) (j:Nat):(vs xs).drop j=vs (xs.drop j):=(List.map_drop ..).symm
theorem Zl {sz:Nat}:∀ {xs:List (List FV)},(∀ y∈xs,y.length=sz)->xs.flatten.length=xs.length*sz
 | [],_=>by simp
 | x::xs,h=>by
  have:=Zl (xs:=xs) λy hy=>h y (YH _ hy);simp only [YO,YY,this,h x YN,Yc,Y0S];omega
theorem flat_drop {sz:Nat}:∀ {xs:List (List FV)},(∀ y∈xs,y.length=sz)->∀ {i:Nat} {y:List FV},xs[i]? = some y->xs.flatten.drop (i*sz)=y++(xs.drop (i+1)).flatten
 | [],_,i,y,h=>by simp at h
 | x::xs,hs,0,y,h=>by
  simp at h;subst h;simp
 | x::xs,hs,i+1,y,h=>by
  have hx:=hs x YN;have:=flat_drop (xs:=xs) (λy hy=>hs y (YH _ hy)) (i:=i) (y:=y) (by simpa using h)
  rw [YO,Y0S,Nat.add_comm (i*sz) sz,<- hx,<- List.drop_drop,List.drop_left,hx,this]
  simp
theorem flat_get {sz:Nat} {xs:List (List FV)} (hs:∀ y∈xs,y.length=sz) {i j:Nat} {y:List FV} (h:xs[i]? = some y) (hj:j<sz):xs.flatten[i*sz+j]? = y[j]?:=by
 rw [<- YX,flat_drop hs h,YJ (by rw [hs y (Y6 h)];exact hj)]
theorem flat_le {sz:Nat} {xs:List (List FV)} (hs:∀ y∈xs,y.length=sz) {i:Nat} {y:List FV} (h:xs[i]? = some y):i*sz+sz<=xs.flatten.length:=by
 have hi:i<xs.length:=by
  rcases YF i xs.length with h1|h1
  ·exact h1
  ·rw [Yl h1] at h;cases h
 rw [Zl hs,<- Y0S]
 exact YS _ hi
theorem flat_splice {sz:Nat}:∀ {xs:List (List FV)},(∀ y∈xs,y.length=sz)->∀ {i:Nat} {y:List FV},xs[i]? = some y->∀ {off:Nat} {zs:List FV},off+zs.length<=sz ->
  splice (vs xs.flatten) (i*sz+off) (vs zs)=vs (xs.set i (y.take off++zs++y.drop (off+zs.length))).flatten:=by
 intro xs hs i y h off zs hle
 have hy:=hs y (Y6 h)
 have hi:i<xs.length:=by
  rcases YF i xs.length with h1|h1
  ·exact h1
  ·rw [Yl h1] at h;cases h
 have e1:xs.flatten=(xs.take i).flatten++(y++(xs.drop (i+1)).flatten):=by
  conv=>lhs;rw [<- Y08 i xs]
  rw [Yt,List.drop_eq_getElem_cons hi,YO];rw [Y3 hi] at h;cases h;rfl
 have e2:xs.set i (y.take off++zs++y.drop (off+zs.length))=xs.take i++(y.take off++zs++y.drop (off+zs.length))::xs.drop (i+1):=by
  rw [Yp,if_pos hi]
 have hl:(xs.take i).flatten.length=i*sz:=by
  rw [Zl (sz:=sz) λy hy=>hs y (Yd hy),YR,Nat.min_eq_left (by omega)]
 rw [e2]
 unfold splice
 rw [vs_take,vs_drop,<- Z1l,<- Z1l,Zw]
 congr 1
 rw [e1,Yt,YO]
 have t1:List.take (i*sz+off) ((xs.take i).flatten++(y++(xs.drop (i+1)).flatten))=(xs.take i).flatten++y.take off:=by
  rw [List.take_append,hl,Y0I (by omega),Y0H (by omega)]
  congr 2;omega
 have t2:List.drop (i*sz+off+zs.length) ((xs.take i).flatten++(y++(xs.drop (i+1)).flatten))=y.drop (off+zs.length)++(xs.drop (i+1)).flatten:=by
  rw [List.drop_append,hl,Y0J (by omega),List.nil_append,List.drop_append_of_le_length (by omega)]
  congr 2;omega
 rw [t1,t2]
 simp only [Yq]
theorem at?_map {α β:Type} {f:α->β} {l:List α} {i:Int} {a:α} (h:at? l i=some a):at? (l.map f) i=some (f a):=by
 obtain ⟨h0,h1⟩:=at?_some h
 rw [at?,if_pos h0,YI,h1];rfl
def set? {α:Type} (l:List α) (i:Int) (a:α):Option (List α):=if 0<=i/\i.toNat<l.length then some (l.set i.toNat a) else none
def app? {α:Type} (by_:Nat) (l m:List α):Option (List α):=if (l.length+m.length)*by_<=room then some (l++m) else none
def new? {α:Type} (by_:Nat) (n:Int) (z:α):Option (List α):=if 0<=n/\n.toNat*by_<=room then some (List.replicate n.toNat z) else none
def cut? {α:Type} (l:List α) (i j:Int):Option (List α):=if 0<=i/\i<=j/\j<=l.length then some ((l.take j.toNat).drop i.toNat) else none
section
variable {X:Ctx} {n:Nat} {dr:Bool} {fn:FuncId} {ops:Array Oper} {base i:Nat} {l:List Oper} {e:Env} {G:Heap} {K:Env->Heap->Prop} {Q:Ex->Env->Heap->Prop} {c a b:Code}
variable {d:Nat} {t t1 t2:TypeId} {p:String} {af:Array Edge} {x y z:Operand} {v:PV} {lo hi:Nat} {L:List Res}
theorem noBuf {x:PV} (h:needF x=false):Z2d x=[]:=by
 cases x with
 | agg cs=>
  simp only [needF,Z2d,List.any_eq_false] at h ⊢;rw [List.flatMap_eq_nil_iff];intro x hx;have:=h x hx;cases x<;>first|rfl|(simp [isRef] at this)
 | _=>first|rfl|cases h
theorem ask_build {parts:Array (Nat×Operand)} {len:Nat} {pp:List (Nat×PV)} (hp:Z24 X e parts.toList=some pp) (h:(pp.all λp=>!needF p.2)=true):ZK X ops base i ⟨some d,.buildSlice t1 len parts,t,p,af,none⟩ e=true:=by
 refine ask0 ?_
 have:frozen X e (.buildSlice t1 len parts)=[]:=by
  simp only [frozen,hp];cases X.hold t1 parts.toList<;>first|rfl|skip;show pp.flatMap _=[];rw [List.flatMap_eq_nil_iff];intro q hq;have:=List.all_eq_true.1 h q hq;simp only [YQ] at this;exact noBuf this
 simp only [ZO,Zh,this]
 rfl
theorem frz_none:∀ {ps:List (Nat×PV)} {G:Heap},(ps.all λp=>!needF p.2)=true->Z09 G ps=some (ps,G)
 | [],G,_=>rfl
 | p::ps,G,h=>by
  simp only [Ye,Y8,YQ] at h;simp only [Z09,h.1,YB,if_false,frz_none h.2,Y1]
theorem frzPs_none {b:Bool} {ps:List (Nat×PV)} {G:Heap} (h:(ps.all λp=>!needF p.2)=true):frzPs b G ps=some (ps,G):=by
 cases b with
 | false=>exact frz_none h
 | true=>rfl
theorem Ops.Z3C {parts:Array (Nat×Operand)} {len sz:Nat} {el:TypeId} {zs:List PV} {pp:List (Nat×PV)} (xs:List (List FV)) (H:Has G lo hi L) (hlo:lo<=base+i) (hhi:base+i<hi)
  (ht:tslice X.P t1=some el) (hp:Z24 X e parts.toList=some pp) (hs:tsize X.P el=some sz) (hz:tzero X.P el=some zs) (hc:(zs.length==sz&&sz != 0&&Nat.ble (len*sz) 1000000)=true)
  (hf:Z3z (λi=>some (i*sz,sz)) (List.replicate len zs).flatten pp=some (vs xs.flatten)) (hl:xs.length=len) (hx:xs.all (λy=>y.length==sz)=true) (hd:Nat.blt d n=true)
  (hk:∀ G',Has G' (base+i+1) hi (.sl (.buf (base+i) len sz) el sz xs true::L)->Ops X n dr ops base (i+1) l (set e d (.buf (base+i) len sz)) G' K) (hfr:(pp.all λp=>!needF p.2)=true:=by rfl) (hlit:(X.lit&&len != 0)=false:=by first|rfl|exact Bool.and_false _) :
  Ops X n dr ops base i (⟨some d,.buildSlice t1 len parts,t,p,af,none⟩::l) e G K:=by
 simp only [Y8,beq_iff_eq,bne_iff_ne,ne_eq,Nat.ble_eq] at hc
 refine .plain (x:=.buf (base+i) len sz) (G1:=G.put (base+i) (.blk el (vs xs.flatten) true)) ?_ (λ_=>ask_build hp hfr) hd (hk _ (H.push hlo hhi (r':=.sl (.buf (base+i) len sz) el sz xs true) ?_ rfl))
 ·simp only [Z2,Z0Q,hp,Y1,frzPs_none hfr,Z0q,ht,hs,hz];rw [if_pos ⟨hc.1.1,hc.1.2,hc.2⟩,hf];simp only [litR,hlit];rfl
 ·exact ⟨λy hy=>by have:=List.all_eq_true.1 hx y hy;simpa using this,.inr ⟨base+i,by rw [hl],Z14⟩⟩
theorem Ops.makeS {el:TypeId} {sz by_:Nat} {m:Int} {zs:List FV} {α:Type} {cc:α->List FV} {za:α} {r:List α} (H:Has G lo hi L) (hlo:lo<=base+i) (hhi:base+i<hi)
  (hx:Z1 X e x=some (.v (.int .i64 m))) (hy:Z1 X e y=some (.v (.int .i64 m))) (hr:new? by_ m za=some r)
  (ht:tslice X.P t1=some el) (hs:tsize X.P el=some sz) (hb:tbytes X.P el=some by_) (hz:tzero X.P el=some (vs zs)) (hza:cc za=zs) (hc:(zs.length==sz&&sz != 0&&by_ != 0)=true) (hd:Nat.blt d n=true)
  (hk:∀ G',Has G' (base+i+1) hi (.sl (.buf (base+i) m.toNat sz) el sz (r.map cc) true::L)->Ops X n dr ops base (i+1) l (set e d (.buf (base+i) m.toNat sz)) G' K) :
  Ops X n dr ops base i (⟨some d,.makeSlice t1 x y,t,p,af,none⟩::l) e G K:=by
 simp only [Y8,beq_iff_eq,bne_iff_ne,ne_eq] at hc
 unfold new? at hr
 split at hr
 ·rename_i hm;cases hr;have e1:(List.map cc (List.replicate m.toNat za))=List.replicate m.toNat zs:=by rw [List.map_replicate,hza]
  have e2:(List.replicate m.toNat (vs zs)).flatten=vs (List.replicate m.toNat zs).flatten:=by
   unfold vs;rw [List.map_flatten,List.map_replicate]
  refine .plain (x:=.buf (base+i) m.toNat sz) (G1:=G.put (base+i) (.blk el (vs (List.replicate m.toNat zs).flatten) true)) ?_ (λ_=>Z04 rfl) hd (hk _ (H.push hlo hhi (r':=.sl (.buf (base+i) m.toNat sz) el sz _ true) ?_ rfl))
  ·simp only [Z2,hx,hy,makeD,ht,hs,hb,hz,Zw];rw [if_pos ⟨trivial,hm.1,hm.2,hc.1.1,hc.1.2,hc.2⟩,e2]
  ·rw [e1];exact ⟨λy hy=>by rw [List.eq_of_mem_replicate hy];exact hc.1.1,.inr ⟨base+i,by simp,Z14⟩⟩
 ·cases hr
theorem Ops.lenS {el et:TypeId} {sz:Nat} {xs:List (List FV)} {lv:Bool} (H:Has G lo hi L) (k:Nat) (hk:L[k]? = some (.sl v et sz xs lv)) (hx:Z1 X e x=some v) (ht:tslice X.P t1=some el)
  (ha:dr=true->∀ id,v.owner=some id->Seen ops base i id false) (hd:Nat.blt d n=true)
  (hk':Ops X n dr ops base (i+1) l (set e d (.v (.int .i64 xs.length))) G K):Ops X n dr ops base i (⟨some d,.call { callee:=.builtin .len,args:=#[x],argTypes:=#[t1] },t,p,af,none⟩::l) e G K:=by
 obtain ⟨hs,hv⟩:=H.sl hk
 refine .plain (x:=.v (.int .i64 xs.length)) (G1:=G) ?_ (λh=>Z0b rfl rfl ?_) hd hk'
 ·simp only [Z2,ZM,ZG,hx,Y1,Zg,lenD,ht];rcases hv with ⟨rfl,rfl⟩|⟨id,rfl,hb⟩
  ·rfl
  ·have:G.cur id (xs.length*sz)=true:=by simp only [Heap.cur,hb,Zw,Zl hs,beq_self_eq_true]
   simp only [this,if_true,Y9]
 ·intro id hid;simp only [touched,ZF,YE,YG,hx,YK] at hid;rcases hv with ⟨rfl,rfl⟩|⟨id',rfl,hb⟩
  ·simp [vids] at hid
  ·simp [vids] at hid;subst hid;exact ha h _ rfl
theorem Ops.Z3V {el et:TypeId} {sz:Nat} {xs:List (List FV)} {u:List FV} {iv:Int} {ik:IntKind} {lv:Bool} (H:Has G lo hi L) (k:Nat) (hk:L[k]? = some (.sl v et sz xs lv)) (hx:Z1 X e x=some v)
  (hy:Z1 X e y=some (.v (.int ik iv))) (hu:at? xs iv=some u) (ht:tslice X.P t1=some el) (hs:tsize X.P el=some sz)
  (ha:dr=true->∀ id,v.owner=some id->Seen ops base i id false) (hd:Nat.blt d n=true)
  (hk':∀ id,v = .buf id xs.length sz->Ops X n dr ops base (i+1) l (set e d (.ptr id (xs.length*sz) (iv.toNat*sz))) G K):Ops X n dr ops base i (⟨some d,.indexAddr t1 x y,t,p,af,none⟩::l) e G K:=by
 obtain ⟨hsz,hv⟩:=H.sl hk
 obtain ⟨h0,hu⟩:=at?_some hu
 have hlt:iv.toNat<xs.length:=by
  rcases YF iv.toNat xs.length with h1|h1
  ·exact h1
  ·rw [Yl h1] at hu;cases hu
 rcases hv with ⟨rfl,rfl⟩|⟨id,rfl,hb⟩
 ·simp at hu
 ·have hcur:G.cur id (xs.length*sz)=true:=by simp only [Heap.cur,hb,Zw,Zl hsz,beq_self_eq_true]
  refine .plain (x:=.ptr id (xs.length*sz) (iv.toNat*sz)) (G1:=G) ?_ (λh=>Z0b rfl rfl ?_) hd (hk' id rfl)
  ·simp only [Z2,hx,hy,Z01,Z2x,if_pos h0,ht,hcur,hs,Bool.true_and,beq_self_eq_true,decide_eq_true hlt,if_true,Y9]
  ·intro id' hid;simp only [touched,ZF,YE,YG,hx,YK] at hid;simp [vids] at hid;subst hid;exact ha h _ rfl
theorem Ops.Z1i {id:Nat} {et ft:TypeId} {sz f fo m off ver:Nat} {xs:List (List FV)} {lv:Bool} (H:Has G lo hi L) (k:Nat) (hk:L[k]? = some (.sl v et sz xs lv)) (hv:v = .buf id xs.length sz) (hver:ver=xs.length*sz)
  (hx:Z1 X e x=some (.ptr id ver off)) (hf:tfield X.P t1 f=some (fo,ft)) (hs:tsize X.P ft=some (m+1)) (ha:dr=true->Seen ops base i id false) (hd:Nat.blt d n=true)
  (hk':Ops X n dr ops base (i+1) l (set e d (.ptr id ver (off+fo))) G K):Ops X n dr ops base i (⟨some d,.fieldAddr t1 x f,t,p,af,none⟩::l) e G K:=by
 subst hver
 obtain ⟨hsz,hv'⟩:=H.sl hk
 rcases hv' with ⟨rfl,rfl⟩|⟨id',rfl,hb⟩
 ·cases hv
 ·cases hv;have hcur:G.cur id (xs.length*sz)=true:=by simp only [Heap.cur,hb,Zw,Zl hsz,beq_self_eq_true]
  refine .plain (x:=.ptr id (xs.length*sz) (off+fo)) (G1:=G) ?_ (λh=>Z0b (ids:=[id]) rfl ?_ (λj hj=>by simp at hj;subst hj;exact ha h)) hd hk'
  ·simp only [Z2,hx,Y1,Z0C,hf,hs,hcur,if_true,Y9]
  ·simp only [touched,ZF,YE,YG,hx,vids,YK]
theorem Ops.loadS {id:Nat} {et:TypeId} {sz j off ver:Nat} {xs:List (List FV)} {u:List FV} {w:FV} {iv:Int} {lv:Bool} (H:Has G lo hi L) (k:Nat) (hk:L[k]? = some (.sl v et sz xs lv)) (hv:v = .buf id xs.length sz) (hver:ver=xs.length*sz)
  (hu:at? xs iv=some u) (hx:Z1 X e x=some (.ptr id ver off)) (hoff:off=iv.toNat*sz+j) (hg:tagg X.P t1=some false) (hj:Nat.blt j sz=true) (hw:u[j]? = some w) (ha:dr=true->Seen ops base i id false) (hd:Nat.blt d n=true)
  (hk':Ops X n dr ops base (i+1) l (set e d (.v w)) G K):Ops X n dr ops base i (⟨some d,.load t1 x,t,p,af,none⟩::l) e G K:=by
 subst hver;subst hoff
 obtain ⟨hsz,hv'⟩:=H.sl hk
 obtain ⟨h0,hu⟩:=at?_some hu
 rcases hv' with ⟨rfl,rfl⟩|⟨id',rfl,hb⟩
 ·cases hv
 ·cases hv;refine .plain (x:=.v w) (G1:=G) ?_ (λh=>Z0b (ids:=[id]) rfl ?_ (λj hj=>by simp at hj;subst hj;exact ha h)) hd hk'
  ·simp only [Z2,hx,Y1,Z0l,hb,Zw,Zl hsz,if_true,hg,vs_get,flat_get hsz hu (blt_lt hj),hw,Y9]
  ·simp only [touched,ZF,YE,YG,hx,vids,YK]
theorem Ops.storeS {id:Nat} {et:TypeId} {sz j m off ver:Nat} {xs:List (List FV)} {u zs u':List FV} {iv:Int} {w:PV} (H:Has G lo hi L) (k:Nat) (hk:L[k]? = some (.sl v et sz xs true)) (hv:v = .buf id xs.length sz) (hver:ver=xs.length*sz)
  (hu:at? xs iv=some u) (hx:Z1 X e x=some (.ptr id ver off)) (hoff:off=iv.toNat*sz+j) (hy:Z1 X e y=some w) (hw:w.cells=some (vs zs)) (hm:tsize X.P t1=some m) (hz:zs.length=m) (hj:Nat.ble (j+m) sz=true)
  (hu':u.take j++zs++u.drop (j+zs.length)=u') (ha:dr=true->Seen ops base i id true)
  (hk':∀ G',Has G' lo hi (L.set k (.sl v et sz (xs.set iv.toNat u') true))->Ops X n dr ops base (i+1) l e G' K):Ops X n dr ops base i (⟨none,.store t1 x y,t,p,af,none⟩::l) e G K:=by
 subst hver;subst hoff;subst hu'
 obtain ⟨hsz,hv'⟩:=H.sl hk
 obtain ⟨h0,hu⟩:=at?_some hu
 have hj:j+m<=sz:=Ym hj
 have hul:=hsz u (Y6 hu)
 rcases hv' with ⟨rfl,rfl⟩|⟨id',rfl,hb⟩
 ·cases hv
 ·cases hv;have hsp:=flat_splice hsz hu (off:=j) (zs:=zs) (by omega)
  have hle:iv.toNat*sz+j+m<=(vs xs.flatten).length:=by
   have:=flat_le hsz hu;rw [Zw];omega
  refine .plain0 (x:=.undef) (G1:=G.put id (.blk et (vs (xs.set iv.toNat (u.take j++zs++u.drop (j+zs.length))).flatten) true)) ?_ (λh=>Z3T (ids:=[id]) rfl ?_ (λj hj=>by simp at hj;subst hj;exact ha h))
   (hk' _ (H.put hk rfl (r':=.sl _ et sz _ true) ⟨?_,.inr ⟨id,?_,Z14⟩⟩ rfl))
  ·have hl2:(vs xs.flatten).length=xs.length*sz:=by rw [Zw,Zl hsz]
   simp only [Z2,hx,hy,Z18,hb,hl2,if_true,hm,hw,Zw,hz];rw [if_pos ⟨trivial,by rw [<- hl2];exact hle⟩,hsp,hz]
   rfl
  ·simp only [touched,ZF,YE,YG,hx,vids,YK]
  ·intro y hy;rcases List.mem_or_eq_of_mem_set hy with h|rfl
   ·exact hsz y h
   ·simp only [YY,YR,Y0Q,hul];omega
  ·rw [Yn]
inductive Bring (L:List Res) (sz:Nat):PV->List (List FV)->Prop
 | p {xs:List (List FV)} (h:xs.all (λy=>y.length==sz)=true):Bring L sz (.v (.sl xs)) xs
 | m {α:Type} {c:α->List FV} {xs:List α} (h:∀ a,(c a).length=sz):Bring L sz (.v (.sl (xs.map c))) (xs.map c)
 | s {v:PV} {et:TypeId} {xs:List (List FV)} {lv:Bool} (k:Nat) (h:L[k]? = some (.sl v et sz xs lv)):Bring L sz v xs
theorem brought {sz:Nat} {w:PV} {ys:List (List FV)} (H:Has G lo hi L) (h:Bring L sz w ys):Z1S G sz w=some (vs ys.flatten,ys.length)/\∀ y∈ys,y.length=sz:=by
 cases h with
 | p h=>
  refine ⟨by simp only [Z1S,h,if_true],λy hy=>by have:=List.all_eq_true.1 h y hy;simpa using this⟩
 | @m α c xs h=>
  have h1:(xs.map c).all (λy=>y.length==sz)=true:=by simp [h]
  refine ⟨by simp only [Z1S,h1,if_true],λy hy=>by have:=List.all_eq_true.1 h1 y hy;simpa using this⟩
 | s k h=>
  obtain ⟨hs,hv⟩:=H.sl h;refine ⟨?_,hs⟩;rcases hv with ⟨rfl,rfl⟩|⟨id,rfl,hb⟩
  ·rfl
  ·simp only [Z1S,hb,Zw,Zl hs,and_self,if_true]
theorem Ops.appendS0 {el:TypeId} {sz by_:Nat} {w:PV} {xs ys:List (List FV)} {zs:List PV} (H:Has G lo hi L) (hlo:lo<=base+i) (hhi:base+i<hi) (k:Nat) (hk:L[k]? = some (.sl v el sz xs true))
  (hx:Z1 X e x=some v) (hy:Z1 X e y=some w) (hb:Bring L sz w ys) (ht:tslice X.P t1=some el) (hs:tsize X.P el=some sz) (hby:tbytes X.P el=some by_) (hz:tzero X.P el=some zs)
  (hc:(sz != 0&&by_ != 0&&zs.length==sz)=true) (hroom:(xs.length+ys.length)*by_<=room)
  (ask:dr=true->ZK X ops base i ⟨some d,.call { callee:=.builtin .append,args:=#[x,y],argTypes:=#[t1,t1] },t,p,af,none⟩ e=true) (hd:Nat.blt d n=true)
  (hk':∀ v' G',Has G' (base+i+1) hi (L.set k (.sl v' el sz (xs++ys) true))->Ops X n dr ops base (i+1) l (set e d v') G' K) :
  Ops X n dr ops base i (⟨some d,.call { callee:=.builtin .append,args:=#[x,y],argTypes:=#[t1,t1] },t,p,af,none⟩::l) e G K:=by
 simp only [Y8,beq_iff_eq,bne_iff_ne,ne_eq] at hc
 obtain ⟨hb1,hb2⟩:=brought H hb
 obtain ⟨hsz,hv⟩:=H.sl hk
 have hall:∀ y∈xs++ys,y.length=sz:=λy hy=>(List.mem_append.1 hy).elim (hsz y) (hb2 y)
 have hn:¬(sz=0\/by_=0\/(some zs).map List.length≠some sz):=by
  rintro (h|h|h)
  ·exact hc.1.1 h
  ·exact hc.1.2 h
  ·exact h (by rw [Y9,hc.2])
 have start:Z2 X (Zm X) e G (base+i) (.call { callee:=.builtin .append,args:=#[x,y],argTypes:=#[t1,t1] })=Z0L X.P G (base+i) t1 v w:=by
  simp only [Z2,ZM,ZG,hx,hy,Y1,Zg,if_true]
 rcases hv with ⟨rfl,rfl⟩|⟨id,rfl,hbl⟩
 ·by_cases h0:ys=[]
  ·subst h0;refine .plain (x:=.nils) (G1:=G) ?_ ask hd (hk' _ _ ((H.weak (YT hlo (Y0X _)) (YA _)).say hk (r':=.sl .nils el sz ([]++[]) true) ⟨by simp,.inl ⟨rfl,rfl⟩⟩ rfl))
   rw [start];simp only [Z0L,ht,hs,hby,hb1,hz,if_neg hn,Yu,if_true]
  ·have hl:ys.length≠0:=λh=>h0 (List.length_eq_zero_iff.1 h);refine .plain (x:=.buf (base+i) ys.length sz) (G1:=G.put (base+i) (.blk el (vs ys.flatten) true)) ?_ ask hd
    (hk' _ _ (H.renew hk hlo hhi (r':=.sl (.buf (base+i) ys.length sz) el sz ([]++ys) true) ⟨hall,.inr ⟨base+i,rfl,Z14⟩⟩ rfl))
   rw [start];simp only [Yu,Y0A] at hroom;simp only [Z0L,ht,hs,hby,hb1,hz,if_neg hn,if_neg hl,if_pos hroom]
 ·refine .plain (x:=.buf id (xs.length+ys.length) sz) (G1:=G.put id (.blk el (vs xs.flatten++vs ys.flatten) true)) ?_ ask hd
   (hk' _ _ ((H.put hk rfl (r':=.sl (.buf id (xs.length+ys.length) sz) el sz (xs++ys) true) ⟨hall,.inr ⟨id,by rw [YY],?_⟩⟩ rfl).weak (YT hlo (Y0X _)) (YA _)))
  ·rw [start];simp only [Z0L,ht,hs,hby,hb1,hz,if_neg hn,hbl];rw [if_pos ⟨trivial,trivial,by rw [Zw,Zl hsz],hroom⟩]
  ·rw [Z14,Yt,Z1l]
def RO (v:PV) (xs:List (List FV)):Prop:=(v = .nils/\xs=[])\/v = .v (.sl xs)
inductive ExpC:List Res->PV->FV->List Res->Prop
 | v {L:List Res} (y:FV):ExpC L (.v y) y L
 | n {L:List Res}:ExpC L .nils (.sl []) L
 | full {L:List Res} (xs:List (List FV)):ExpC L (.full xs) (.sl xs) L
 | ro {L:List Res} {v:PV} {xs:List (List FV)} (h:RO v xs):ExpC L v (.sl xs) L
 | s {L:List Res} {v:PV} {et:TypeId} {sz:Nat} {xs:List (List FV)} {lv:Bool} (k:Nat) (h:L[k]? = some (.sl v et sz xs lv)):ExpC L v (.sl xs) (L.set k (.sl v et sz xs false))
inductive ExpCs:List Res->List PV->List FV->List Res->Prop
 | nil {L:List Res}:ExpCs L [] [] L
 | cons {L L1 L2:List Res} {x:PV} {y:FV} {xs:List PV} {ys:List FV} (h:ExpC L x y L1) (t:ExpCs L1 xs ys L2):ExpCs L (x::xs) (y::ys) L2
inductive ExpV:List Res->PV->PV->List Res->Prop
 | c {L L':List Res} {x:PV} {y:FV} (h:ExpC L x y L'):ExpV L x (.v y) L'
 | a {L L':List Res} {xs:List PV} {ys:List FV} (h:ExpCs L xs ys L'):ExpV L (.agg xs) (.agg (vs ys)) L'
 | p {L:List Res} {x:PV} (h:x.pure=true):ExpV L x x L
inductive ExpVs:List Res->List PV->List PV->List Res->Prop
 | nil {L:List Res}:ExpVs L [] [] L
 | cons {L L1 L2:List Res} {x y:PV} {xs ys:List PV} (h:ExpV L x y L1) (t:ExpVs L1 xs ys L2):ExpVs L (x::xs) (y::ys) L2
theorem Ops.appendS {el:TypeId} {sz by_:Nat} {w:PV} {xs ys:List (List FV)} {zs:List PV} (H:Has G lo hi L) (hlo:lo<=base+i) (hhi:base+i<hi) (k:Nat) (hk:L[k]? = some (.sl v el sz xs true))
  (hx:Z1 X e x=some v) (hy:Z1 X e y=some w) (hb:Bring L sz w ys) (ht:tslice X.P t1=some el) (hs:tsize X.P el=some sz) (hby:tbytes X.P el=some by_) (hz:tzero X.P el=some zs)
  (hc:(sz != 0&&by_ != 0&&zs.length==sz)=true) (hroom:(xs.length+ys.length)*by_<=room)
  (ha:dr=true->∀ id∈vids v++vids w,Seen ops base i id true) (hd:Nat.blt d n=true)
  (hk':∀ v' G',Has G' (base+i+1) hi (L.set k (.sl v' el sz (xs++ys) true))->Ops X n dr ops base (i+1) l (set e d v') G' K) :
  Ops X n dr ops base i (⟨some d,.call { callee:=.builtin .append,args:=#[x,y],argTypes:=#[t1,t1] },t,p,af,none⟩::l) e G K :=
 .appendS0 H hlo hhi k hk hx hy hb ht hs hby hz hc hroom (λh=>Z3T rfl (by simp only [touched,ZF,YE,YG,hx,hy,YK]) (ha h)) hd hk'
theorem Z4p {sz:Nat}:∀ {xs:List (List FV)},(∀ y∈xs,y.length=sz)->chunk sz xs.length xs.flatten=xs
 | [],_=>rfl
 | x::xs,h=>by
  have hx:=h x YN;have:=Z4p (xs:=xs) λy hy=>h y (YH _ hy);simp only [Yc,chunk,YO];rw [<- hx,List.take_left,List.drop_left,hx,this]
theorem Z5z {d:Nat} {G:Heap} (cs:List FV):ZT (ZN (d+1)) G (vs cs)=some (cs,G):=by
 induction cs with
 | nil=>rfl
 | cons c cs ih=>
  simp only [vs,Yz,ZT,ZN,Y1] at ih ⊢;rw [ih];rfl
theorem Z37 {d:Nat} {G:Heap} {id len sz:Nat} {elem:TypeId} {cells:List PV} {lv:Bool} (h:G.ent id = .blk elem cells lv) (hl:cells.length=len*sz) :
  ZN (d+1) G (.buf id len sz)=(ZT (ZN d) (G.put id (.blk elem cells false)) cells).bind λr=>some (.sl (chunk sz len r.1),r.2):=by
 rw [ZN]
 simp only [h,hl,if_true]
theorem expC_ok {x:PV} {y:FV} {L':List Res} (H:Has G lo hi L) (h:ExpC L x y L'):∃ G',ZN 6 G x=some (y,G')/\Has G' lo hi L'/\G'.nx=G.nx:=by
 cases h with
 | v y=>exact ⟨G,rfl,H,rfl⟩
 | n=>exact ⟨G,rfl,H,rfl⟩
 | full xs=>exact ⟨G,rfl,H,rfl⟩
 | ro h=>rcases h with ⟨rfl,rfl⟩|rfl<;>exact ⟨G,rfl,H,rfl⟩
 | @s _ et sz xs lv k h=>
  obtain ⟨hs,hv⟩:=H.sl h;rcases hv with ⟨rfl,rfl⟩|⟨id,rfl,hb⟩
  ·exact ⟨G,rfl,H.say h ⟨by simp,.inl ⟨rfl,rfl⟩⟩ rfl,rfl⟩
  ·refine ⟨G.put id (.blk et (vs xs.flatten) false),?_,H.put h rfl (r':=.sl (.buf id xs.length sz) et sz xs false) ⟨hs,.inr ⟨id,rfl,Z14⟩⟩ rfl,rfl⟩;rw [Z37 hb (by rw [Zw,Zl hs]),Z5z (d:=4)]
   simp only [Y1,Z4p hs]
theorem expCs_ok:∀ {xs:List PV} {G:Heap} {L L':List Res} {ys:List FV},Has G lo hi L->ExpCs L xs ys L'->∃ G',Z4B G xs=some (ys,G')/\Has G' lo hi L'/\G'.nx=G.nx
 | [],G,L,L',ys,H,h=>by cases h;exact ⟨G,rfl,H,rfl⟩
 | x::xs,G,L,L',ys,H,h=>by
  cases h with
  | cons h t=>
   obtain ⟨G1,q1,q2,q3⟩:=expC_ok H h;obtain ⟨G2,p1,p2,p3⟩:=expCs_ok q2 t;refine ⟨G2,?_,p2,p3.trans q3⟩;unfold Z4B at p1 ⊢;simp only [ZT,q1,Y1,p1]
theorem expV_ok {x y:PV} {L':List Res} (H:Has G lo hi L) (h:ExpV L x y L'):∃ G',Z07 G x=some (y,G')/\Has G' lo hi L'/\G'.nx=G.nx:=by
 cases h with
 | c h=>
  obtain ⟨G',q1,q2,q3⟩:=expC_ok H h
  refine ⟨G',?_,q2,q3⟩;cases h with
  | v y=>simp only [Z07,q1,Y1]
  | n=>simp only [Z07,q1,Y1]
  | full xs=>simp only [Z07,q1,Y1]
  | ro h=>rcases h with ⟨rfl,rfl⟩|rfl<;>simp only [Z07,q1,Y1]
  | s k h=>
   obtain ⟨_,⟨rfl,rfl⟩|⟨id,rfl,hb⟩⟩:=H.sl h
   ·simp only [Z07,q1,Y1]
   ·simp only [Z07,q1,Y1]
 | a h=>
  obtain ⟨G',q1,q2,q3⟩:=expCs_ok H h;exact ⟨G',by simp only [Z07,q1,Y1],q2,q3⟩
 | p h=>exact ⟨G,Z1r h,H,rfl⟩
theorem expArg_val {x y:PV} {G':Heap} (h:Z07 G x=some (y,G')) (hp:∀ (id ver off:Nat),x ≠ .ptr id ver off) (hc:∀ (f:FuncId) (a c:List PV),x ≠ .clo f a c) (hy:∀ id,x ≠ .yld id):Z1e G x=some (y,G'):=by
 cases x<;>first|exact h|exact absurd rfl (hp _ _ _)|exact absurd rfl (hc _ _ _)|exact absurd rfl (hy _)
theorem Z6z {x y:PV} {L':List Res} (H:Has G lo hi L) (h:ExpV L x y L'):(∀ (id ver off:Nat),x ≠ .ptr id ver off)/\(∀ (f:FuncId) (a c:List PV),x ≠ .clo f a c)/\(∀ id,x ≠ .yld id)/\(∀ xs,x ≠ .tup xs)/\y.pure=true:=by
 cases h with
 | c h=>
  cases h with
  | v y=>exact ⟨by intros;simp,by intros;simp,by intros;simp,by intros;simp,rfl⟩
  | n=>exact ⟨by intros;simp,by intros;simp,by intros;simp,by intros;simp,rfl⟩
  | full xs=>exact ⟨by intros;simp,by intros;simp,by intros;simp,by intros;simp,rfl⟩
  | ro h=>rcases h with ⟨rfl,rfl⟩|rfl<;>exact ⟨by intros;simp,by intros;simp,by intros;simp,by intros;simp,rfl⟩
  | s k h=>
   obtain ⟨_,⟨rfl,rfl⟩|⟨id,rfl,hb⟩⟩:=H.sl h
   ·exact ⟨by intros;simp,by intros;simp,by intros;simp,by intros;simp,rfl⟩
   ·exact ⟨by intros;simp,by intros;simp,by intros;simp,by intros;simp,rfl⟩
 | a h=>exact ⟨by intros;simp,by intros;simp,by intros;simp,by intros;simp,by simp [PV.pure,vs,PV.isV]⟩
 | p h=>cases x<;>simp [PV.pure] at h ⊢;all_goals simp_all
theorem expVs_ok:∀ {xs:List PV} {G:Heap} {L L':List Res} {ys:List PV},Has G lo hi L->ExpVs L xs ys L'->∃ G',Z0M G xs=some (ys,G')/\Zz G xs=some (ys,G')/\Has G' lo hi L'/\G'.nx=G.nx/\ys.all PV.pure=true
 | [],G,L,L',ys,H,h=>by cases h;exact ⟨G,rfl,rfl,H,rfl,rfl⟩
 | x::xs,G,L,L',ys,H,h=>by
  cases h with
  | cons h t=>
   obtain ⟨G1,q1,q2,q3⟩:=expV_ok H h;obtain ⟨s1,s2,s3,_,s4⟩:=Z6z H h;obtain ⟨G2,p1,p1',p2,p3,p4⟩:=expVs_ok q2 t;refine ⟨G2,?_,?_,p2,p3.trans q3,by simp [s4,p4]⟩
   ·simp only [Z0M,q1,Y1,p1]
   ·simp only [Zz,expArg_val q1 s1 s2 s3,Y1,p1']
inductive ExpR (L:List Res):List PV->PV->List Res->Prop
 | one {x y:PV} {L':List Res} (h:ExpV L x y L'):ExpR L [x] y L'
 | two {x x':PV} {xs ys:List PV} {L':List Res} (h:ExpVs L (x::x'::xs) ys L'):ExpR L (x::x'::xs) (.tup ys) L'
 | zero:ExpR L [] (.tup []) L
theorem expR_ok {xs:List PV} {y:PV} {L':List Res} (H:Has G lo hi L) (h:ExpR L xs y L'):∃ G',Z05 G (Z0J xs)=some (y,G')/\Has G' lo hi L':=by
 cases h with
 | @one x _ _ h=>
  obtain ⟨G',q1,q2,_⟩:=expV_ok H h;obtain ⟨_,_,_,s4,_⟩:=Z6z H h;refine ⟨G',?_,q2⟩;show Z05 G x=_;cases x<;>first|exact q1|exact absurd rfl (s4 _)
 | two h=>
  obtain ⟨G',q1,_,q2,_⟩:=expVs_ok H h;exact ⟨G',by simp only [Z0J,Z05,q1,Y1],q2⟩
 | zero=>exact ⟨G,rfl,H⟩
theorem callL_exp {f:FuncId} {args args':List PV} {r:PV} {G':Heap} (hF:Fn X f args' r) (hi0:X.intr f args=none) (ht:X.thaw f=false\/G'=G) (he:Zz G args=some (args',G')):Zm X (.fn f) args G=some (r,G'):=by
 obtain ⟨k,hk⟩:=Z0A.1 (hF.call G')
 refine Z0A.2 ⟨k,?_⟩
 cases k with
 | zero=>simp [Za] at hk
 | succ k=>
  simp only [Za,hF.keep,YB,if_false,Z0c hF.pure,hF.opn,hF.pure,if_true] at hk;simp only [Za,hi0,hF.keep,YB,if_false,he,hF.opn,hF.pure,if_true];cases hi1:X.intr f args' with
  | some r'=>simp only [hi1] at hk ⊢;exact hk
  | none=>
   simp only [hi1,ite_self] at hk ⊢;rcases ht with ht|rfl
   ·simp only [ht,Y0E,YB,if_false];exact hk
   ·simp only [ite_self];exact hk
theorem Ops.callX {f:FuncId} {args:Array Operand} {ts:Array TypeId} {xs ys:List PV} {r:PV} {L':List Res} (H:Has G lo hi L) (ha:ZG X e args.toList=some xs) (hE:ExpVs L xs ys L') (hf:Fn X f ys r) (hi0:X.intr f xs=none) (hi1:X.thaw f=false) (hdr:dr=true->Z1m (Region.before ops) ops i=true) (hd:Nat.blt d n=true)
  (hk:∀ G',Has G' lo hi L'->Ops X n dr ops base (i+1) l (set e d r) G' K) :
  Ops X n dr ops base i (⟨some d,.call { callee:=.value (.func f),args:=args,argTypes:=ts },t,p,af,none⟩::l) e G K:=by
 obtain ⟨G',q1,q2,q3,_⟩:=expVs_ok H hE
 exact .plain (x:=r) (G1:=G') (by simp only [Z2,ZM,ha,Z1,callL_exp hf hi0 (.inl hi1) q2]) (λh=>ask_all (hdr h)) hd (hk G' q3)
abbrev Hs (G:Heap) (L:List Res):Prop:=Has G G.nx G.nx L
def ZC (e:Env):List (Nat×PV)->Prop
 | []=>True
 | (k,v)::l=>e k=v/\ZC e l
def sets (e:Env):List (Nat×PV)->Env
 | []=>e
 | (k,v)::l=>set (sets e l) k v
theorem ZC.eq:∀ {l:List (Nat×PV)} {e:Env},ZC e l->e=sets e l
 | [],e,_=>rfl
 | (k,v)::l,e,⟨h,t⟩=>by
  have ih:=ZC.eq t
  funext j
  simp only [sets,set];cases hj:Nat.beq j k with
  | true=>rw [Yy hj];exact h
  | false=>exact congrFun ih j
theorem ZC.ex {l:List (Nat×PV)} {e:Env} (h:ZC e l):∃ e0,e=sets e0 l:=⟨e,h.eq⟩
theorem holds_ent {r:Res} {G G':Heap} (h:r.holds G) (he:G'.ent=G.ent) (hn:G.nx<=G'.nx):r.holds G':=by
 cases r with
 | blk id t cells=>show G'.ent id=_;rw [he];exact h
 | sl v e sz xs live=>exact ⟨h.1,h.2.imp (λh=>h) λ⟨id,hv,hb⟩=>⟨id,hv,by rw [he];exact hb⟩⟩
 | floor m=>exact YT h hn
 | hole id=>trivial
 | loop id fn e n ps as_ bo st pd=>show G'.ent id=_;rw [he];exact h
 | mp id kv=>show G'.ent id=_;rw [he];exact h
 | fix id en=>show G'.ent id=_;rw [he];exact h
theorem Has.enter (H:Hs G L) (m:Nat):Has ⟨G.nx+m,G.ent⟩ G.nx (G.nx+m) L :=
 ⟨λk r hk=>holds_ent (H.holds k r hk) rfl (Nat.le_add_right _ _),λk r hk id ho=>⟨.inl (H.lt k r hk id ho).2,YL (H.lt k r hk id ho).2 (Nat.le_add_right _ _)⟩,H.sep,YA _⟩
theorem Runs.Z9 {id:Nat} {os:List Oper} (m:Nat) (hm:os.length=m) (H:Hs G L) (h:∀ base G',Has G' base (base+m) L->Ops X n false os.toArray base 0 os e G' (Q .normal)):Runs X n fn (.region id os.toArray false) e G Q:=by
 subst hm
 have h:=h G.nx _ (H.enter os.length)
 exact Runs.region (m':=G.nx+os.length) rfl h
theorem Runs.Z22 {id:Nat} {os:List Oper} (m:Nat) (hm:os.length=m) (hd:Z1j os.toArray=true) (H:Hs G L) (h:∀ base G',Has G' base (base+m) L->(∀ (k:Nat) (r:Res),L[k]? = some r->∀ id,r.owner=some id->id<base)->Ops X n true os.toArray base 0 os e G' (Q .normal)):Runs X n fn (.region id os.toArray true) e G Q:=by
 subst hm
 have h:=h G.nx _ (H.enter os.length) (λk r hk id ho=>(H.lt k r hk id ho).2)
 exact Runs.drawn (m':=G.nx+os.length) hd rfl h
theorem Z4P {call:ZR}:∀ (l1 l2:List Oper) (i:Nat) (e:Env) (G:Heap),Z0a X call n ops base i (l1++l2) e G=(Z0a X call n ops base i l1 e G).bind λr=>Z0a X call n ops base (i+l1.length) l2 r.1 r.2
 | [],l2,i,e,G=>rfl
 | o::l1,l2,i,e,G=>by
  simp only [List.cons_append,Z0a,Yc];cases Zv X call n ops base i o e G with
  | none=>rfl
  | some r=>
   simp only [Y1];rw [Z4P l1 l2 (i+1) r.1 r.2,show i+1+l1.length=i+(l1.length+1) by omega]
theorem Z46 {call:ZR}:∀ (l1 l2:List Oper) (i:Nat) (e:Env) (G:Heap),Z0E X call n ops base i (l1++l2) e G=(Z0E X call n ops base i l1 e G).bind λr=>Z0E X call n ops base (i+l1.length) l2 r.1 r.2
 | [],l2,i,e,G=>rfl
 | o::l1,l2,i,e,G=>by
  simp only [List.cons_append,Z0E,Yc];cases Zk X call n ops base i o e G with
  | none=>rfl
  | some r=>
   simp only [Y1];rw [Z46 l1 l2 (i+1) r.1 r.2,show i+1+l1.length=i+(l1.length+1) by omega]
theorem Ops.mid (k:Nat) {K1:Env->Heap->Prop} (hk:Nat.ble k l.length=true) (h1:Ops X n dr ops base i (l.take k) e G K1) (h2:∀ e G,K1 e G->Ops X n dr ops base (i+k) (l.drop k) e G K):Ops X n dr ops base i l e G K:=by
 obtain ⟨e1,G1,q1,q2⟩:=h1.run
 obtain ⟨e2,G2,p1,p2⟩:=(h2 e1 G1 q2).run
 have hl:(l.take k).length=k:=by rw [YR];have:=Ym hk;omega
 refine ⟨⟨e2,G2,?_,p2⟩⟩
 cases dr with
 | false=>
  simp only [YB,if_false] at q1 p1 ⊢;rw [<- Y08 k l,Z4P,q1,Y1,hl];exact p1
 | true=>
  simp only [if_true] at q1 p1 ⊢;rw [<- Y08 k l,Z46,q1,Y1,hl];exact p1
def Z1y {S R:Type} (step:S->Option (S⊕R)):Nat->S->Option R
 | 0,_=>none
 | k+1,s=>match step s with
  | some (.inl s')=>Z1y step k s'
  | some (.inr r)=>some r
  | none=>none
def LoopEnd {S R:Type} (I:S->Env->Heap->Prop) (J:R->Ex->Env->Heap->Prop):S⊕R->Ex->Env->Heap->Prop
 | .inl s,x,e,G=>x = .normal/\I s e G
 | .inr r,x,e,G=>x ≠ .normal/\J r x e G
theorem Runs.loopO {S R:Type} {step:S->Option (S⊕R)} {s:S} {y:R} {k:Nat} (h:Z1y step k s=some y) (I:S->Env->Heap->Prop) (J:R->Ex->Env->Heap->Prop) (h0:I s e G)
  (hs:∀ s e G,I s e G->∀ z,step s=some z->Runs X n fn c e G (LoopEnd I J z)):Runs X n fn (.loop c) e G (J y):=by
 refine Runs.loop (λm e G=>∃ s,Z1y step m s=some y/\I s e G) (m:=k) ⟨s,h,h0⟩ ?_
 rintro m e G ⟨s,h1,h2⟩
 cases m with
 | zero=>cases h1
 | succ m=>
  simp only [Z1y] at h1
  split at h1
  ·rename_i s' hst;refine (hs s e G h2 _ hst).mono ?_;rintro x e' G' ⟨rfl,hI⟩;exact ⟨m,Nat.lt_succ_self m,s',h1,hI⟩
  ·rename_i r hst;cases h1;refine (hs s e G h2 _ hst).mono ?_;rintro x e' G' ⟨hx,hJ⟩;cases x with
   | normal=>exact absurd rfl hx
   | exit id=>exact hJ
   | ret=>exact hJ
  ·cases h1
end
noncomputable def loopO {S R:Type} (step:S->Option (S⊕R)) (s:S):Option R :=
 open Classical in if h:∃ r,∃ k,Z1y step k s=some r then some h.choose else none
theorem Z4b {S R:Type} {step:S->Option (S⊕R)}:∀ {k:Nat} {s:S} {r:R},Z1y step k s=some r->∀ {m:Nat},k<=m->Z1y step m s=some r
 | 0,s,r,h,_,_=>by cases h
 | k+1,s,r,h,m,hm=>by
  obtain ⟨m,rfl⟩ : ∃ j,m=j+1:=⟨m-1,by omega⟩
  simp only [Z1y] at h ⊢
  split at h
  ·rename_i s' hs;exact Z4b h (by omega)
  ·exact h
  ·cases h
theorem ZL {S R:Type} {step:S->Option (S⊕R)} {s:S} {r:R}:loopO step s=some r ↔ ∃ k,Z1y step k s=some r:=by
 unfold loopO
 constructor
 ·intro h
  split at h
  ·rename_i hex;cases h;exact hex.choose_spec
  ·cases h
 ·rintro ⟨k,h⟩;have hex:∃ r,∃ k,Z1y step k s=some r:=⟨r,k,h⟩;rw [dif_pos hex];obtain ⟨k',h'⟩:=hex.choose_spec;have e1:=Z4b h (Nat.le_max_left k k');have e2:=Z4b h' (Nat.le_max_right k k');rw [e1] at e2;exact e2.symm
theorem loopO_eq {S R:Type} (step:S->Option (S⊕R)) (s:S):loopO step s=match step s with|some (.inl s')=>loopO step s'|some (.inr r)=>some r|none=>none:=by
 cases hs:step s with
 | none=>
  cases h:loopO step s with
  | none=>rfl
  | some r=>
   obtain ⟨k,hk⟩:=ZL.1 h
   cases k with
   | zero=>cases hk
   | succ k=>simp [Z1y,hs] at hk
 | some z=>
  cases z with
  | inr r=>exact ZL.2 ⟨1,by simp [Z1y,hs]⟩
  | inl s'=>
   simp only;cases h:loopO step s' with
   | some r=>
    obtain ⟨k,hk⟩:=ZL.1 h;exact ZL.2 ⟨k+1,by simp only [Z1y,hs];exact hk⟩
   | none=>
    cases h2:loopO step s with
    | none=>rfl
    | some r=>
     obtain ⟨k,hk⟩:=ZL.1 h2
     cases k with
     | zero=>cases hk
     | succ k=>
      simp only [Z1y,hs] at hk;rw [ZL.2 ⟨k,hk⟩] at h;cases h
inductive Jx (A R:Type) where
 | go (a:A)
 | ret (r:R)
theorem bind_some {α β:Type} {x:Option α} {f:α->Option β} {b:β} (h:x.bind f=some b):∃ a,x=some a/\f a=some b:=Option.bind_eq_some_iff.1 h
theorem cond_T {α:Type} {c:Bool} {a b r:α} (hc:c=true) (h:(bif c then a else b)=r):a=r:=by rw [hc] at h;exact h
theorem cond_F {α:Type} {c:Bool} {a b r:α} (hc:c=false) (h:(bif c then a else b)=r):b=r:=by rw [hc] at h;exact h
section
variable {X:Ctx} {n:Nat} {fn:FuncId} {e:Env} {G:Heap} {lo hi:Nat} {L:List Res}
inductive ResD (P:Program) (e:Env) (L:List Res):List ResultVar->List PV->Prop
 | nil:ResD P e L [] []
 | tmp {t:Nat} {v:PV} {rs:List ResultVar} {xs:List PV} (h:e t=v) (k:ResD P e L rs xs):ResD P e L (.tmp t::rs) (v::xs)
 | cell {a:Nat} {t:TypeId} {id off ver:Nat} {te:TypeId} {cells:List PV} {v:PV} {rs:List ResultVar} {xs:List PV} (i:Nat) (hi:L[i]? = some (.blk id te cells)) (h:e a = .ptr id ver off) (hv:cells.length=ver) (hg:tagg P t=some false) (hc:cells[off]? = some v) (k:ResD P e L rs xs):ResD P e L (.cell a t::rs) (v::xs)
 | agg {a:Nat} {t:TypeId} {id off ver m:Nat} {te:TypeId} {cells cs:List PV} {rs:List ResultVar} {xs:List PV} (i:Nat) (hi:L[i]? = some (.blk id te cells)) (h:e a = .ptr id ver off) (hv:cells.length=ver) (hg:tagg P t=some true) (hm:tsize P t=some m) (hl:Nat.ble (off+m) cells.length=true) (hc:(cells.drop off).take m=cs) (k:ResD P e L rs xs):ResD P e L (.cell a t::rs) (.agg cs::xs)
theorem Z15 {P:Program} {rs:List ResultVar} {xs:List PV} (H:Has G lo hi L) (h:ResD P e L rs xs):ZY P e G rs=some xs:=by
 induction h with
 | nil=>rfl
 | tmp h k ih=>simp only [ZY,ih,Y9,h]
 | cell i hi h hv hg hc k ih=>simp only [ZY,h,Z0l,H.blk hi,hv,if_true,hg,hc,Y1,ih,Y9]
 | agg i hi h hv hg hm hl hc k ih=>
  have h2:=Ym hl;rw [hv] at h2;simp only [ZY,h,Z0l,H.blk hi,hv,if_true,hg,hm,if_pos h2,hc,Y1,ih,Y9]
theorem Ends.H {rs:List ResultVar} {xs:List PV} {r:PV} {x:Ex} {L':List Res} (hx:x = .normal\/x = .ret) (H:Has G lo hi L) (h:ResD X.P e L rs xs) (hr:ExpR L xs r L'):Ends X rs r x e G:=by
 obtain ⟨G',q,_⟩:=expR_ok H hr
 exact ⟨hx,xs,G',Z15 H h,q⟩
structure EndsH (X:Ctx) (rs:List ResultVar) (r:PV) (L:List Res) (x:Ex) (e:Env) (G:Heap):Prop where
 out:(x = .normal\/x = .ret)/\∃ xs G' lo hi,ZY X.P e G rs=some xs/\Z05 G (Z0J xs)=some (r,G')/\Has G' lo hi L
theorem Has.drop (H:Has G lo hi L):∀ n:Nat,Has G lo hi (L.drop n)
 | 0=>H
 | n+1=>by
  have h1:=(Has.drop H n).erase 0
  rwa [List.eraseIdx_zero,List.tail_drop] at h1
theorem EndsH.H {rs:List ResultVar} {xs:List PV} {r:PV} {x:Ex} {L' L0:List Res} (hx:x = .normal\/x = .ret) (H:Has G lo hi L) (h:ResD X.P e L rs xs) (hr:ExpR L xs r L') (k:Nat) (hk:L'.drop k=L0):EndsH X rs r L0 x e G:=by
 obtain ⟨G',q,H'⟩:=expR_ok H hr
 exact ⟨hx,xs,G',lo,hi,Z15 H h,q,hk▸H'.drop k⟩
end
end Go.Dn
