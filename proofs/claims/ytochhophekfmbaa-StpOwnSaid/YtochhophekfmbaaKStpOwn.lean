/- The statement StpOwn: the law's walk by the interpreter, and the row's step. -/
import Derived.Test.YtochhophekfmbaaRows
import Derived.WalkKit
import Derived.ProofKit
import Derived.OpenShut
import Derived.ShutString
import Derived.ChangeOld
import Derived.Below
import Derived.Carry
import Derived.SizedLaws
import Derived.Test.YtochhophekfmbaaM3
set_option linter.unusedVariables false
set_option linter.unusedSimpArgs false
namespace Go.Dn
open Go Go.Proofs
set_option maxRecDepth 100000 in
theorem dec32:Dec Try.prog 32 Bound.cs Bound.ok:=λd ys ho=>by
 cases d with
 | zero=>exact ho.elim
 | succ d=>
  simp only [OKC,Try.underlying32] at ho
  obtain ⟨hl,hf⟩:=ho
  obtain ⟨x0, e0, o0⟩ := (Dec.int Try.underlying30) d _ (hf { name := "Inf", type := 30, offset := 0, embedded := false, tag := "", pkgPath := "", byteOffset := 0 } (by simp))
  have e0:(ys.drop 0).take 1=(cI .i8) x0:=e0
  obtain ⟨x1, e1, o1⟩ := (Dec.int Try.underlying3) d _ (hf { name := "N", type := 3, offset := 1, embedded := false, tag := "", pkgPath := "", byteOffset := 8 } (by simp))
  have e1:(ys.drop 1).take 1=(cI .i64) x1:=e1
  refine ⟨⟨x0,x1⟩,?_,o0,o1⟩
  have hn:ys.length=2:=hl
  have z:ys.drop 0=_:=((fld ys 0 1).symm.trans (congr (congrArg _ e0) ((fld ys 1 1).symm.trans (congr (congrArg _ e1) (fld_nil hn)))))
  rw [List.drop_zero] at z
  rw [z]
  rfl
set_option maxRecDepth 100000 in
theorem dec42:Dec Try.prog 42 epactlaw24_Set.cs epactlaw24_Set.ok:=λd ys ho=>by
 cases d with
 | zero=>exact ho.elim
 | succ d=>
  simp only [OKC,Try.underlying42] at ho
  obtain ⟨hl,hf⟩:=ho
  obtain ⟨x0, e0, o0⟩ := (Dec.int Try.underlying3) d _ (hf { name := "I", type := 3, offset := 0, embedded := false, tag := "", pkgPath := "", byteOffset := 0 } (by simp))
  have e0:(ys.drop 0).take 1=(cI .i64) x0:=e0
  obtain ⟨x1, e1, o1⟩ := (Dec.int Try.underlying3) d _ (hf { name := "J", type := 3, offset := 1, embedded := false, tag := "", pkgPath := "", byteOffset := 8 } (by simp))
  have e1:(ys.drop 1).take 1=(cI .i64) x1:=e1
  obtain ⟨x2, e2, o2⟩ := dec32 d _ (hf { name := "Most", type := 32, offset := 2, embedded := false, tag := "", pkgPath := "", byteOffset := 16 } (by simp))
  have e2:(ys.drop 2).take 2=Bound.cs x2:=e2
  refine ⟨⟨x0,x1,x2⟩,?_,o0,o1,o2⟩
  have hn:ys.length=4:=hl
  have z:ys.drop 0=_:=((fld ys 0 1).symm.trans (congr (congrArg _ e0) ((fld ys 1 1).symm.trans (congr (congrArg _ e1) ((fld ys 2 2).symm.trans (congr (congrArg _ e2) (fld_nil hn)))))))
  rw [List.drop_zero] at z
  rw [z]
  rfl
end Go.Dn
namespace Go.Proofs.Ytochhophekfmbaa
open Go.ChangeShapes Go.WideShapes Go.ChangeAt Go.RowKit

namespace StpOwnP
theorem own:ownKnob Try.prog.godebug=none:=by kernel_rfl
theorem laidOut:laidOutB Try.prog=true:=by kernel_rfl

set_option maxRecDepth 100000 in
theorem lifted (os:Os) (started:os.Started) (H:Type) (enc:TypeId×Value->H) :
  ReturnsInHanded {} Try.checked os 13 .any (Rows.stpOwnSpec.pre6 enc Try.prog Try.f13 Rows.stpOwnRow.domain false) (Rows.stpOwnSpec.post enc Try.prog Try.f13 false true false false):=by
 refine returnsInHanded_of_change_sized (C:=Try.checked) own started (by kernel_rfl) Try.func13
  (ChangeSpec.witness6 (enc:=enc) (C:=Try.checked) false ⟨#[],#[.int .u8 0,.slice none 0 0],[]⟩ 8 (by kernel_rfl) (by kernel_rfl) (by kernel_rfl) (by kernel_rfl)) ?_
 intro W base args ds gs before hval0 hW hcnd hsz0 _
 have hsz:(DataW.weightsEach Try.prog (Try.f13.params.toList++Rows.stpOwnSpec.plain.varTypes Try.prog) (ds++gs)).all (·<=reachBytes)=true:=hsz0
 have hval:∀ (j:Nat) t v,Try.f13.params[j]? = some t->args[j]? = some v->Value.okWide Try.prog W .any base t v:=hval0
 have hW':=hW
 obtain ⟨p,q,hA0,hV,rfl,hfz,hnd⟩:=hW
 have hA:DataW.TrodAll enc Try.prog W 0 (λ_=>true) true Try.f13.params.toList args.toList ds p:=hA0
 rw [Try.params13] at hA hval
 obtain ⟨v0,vs0,d0,ds0,p0,q0,hargs,rfl,rfl,h0,r0⟩:=trodAll_cons hA
 obtain ⟨v1,vs1,d1,ds1,p1,q1,rfl,rfl,rfl,h1,r1⟩:=trodAll_cons r0
 obtain ⟨rfl,rfl,rfl⟩:=trodAll_nil r1
 obtain rfl:args = #[v0,v1]:=by cases args;simp_all
 obtain ⟨rfl,rfl⟩:=trodVars_none hV
 have k0:=h0
 have lt0:∀ x∈p0,x.block<W.heap.size:=by obtain ⟨m,hm⟩:=k0;exact DataW.trod_lt m _ _ _ hm
 obtain ⟨fu0,hf0⟩:=h0
 obtain ⟨ys0,c0,ok0⟩:=Go.Dn.trod_ok (Im:=(Go.Dn.St.start W).imm) 8 fu0 5 _ _ (by kernel_rfl) hf0 (λp hp=>Go.Dn.start_imm (lt0 p hp)) (λn hn=>by have:=List.all_eq_true.1 hsz n (DataW.weights_mem_each (j:=0) (t:=5) (d:=d0) rfl rfl n hn);simpa using this)
 obtain ⟨x0,rfl,o0⟩:=Go.Dn.Dec.int Try.underlying5 8 _ ok0
 have pv0:Go.Dn.PVR (Go.Dn.St.start W) (.v (.int .u8 x0)) v0:=Go.Dn.pvr_one (by rw [Try.underlying5]) (hval 0 5 v0 rfl rfl) rfl c0
 have k1:=h1
 have lt1:∀ x∈p1,x.block<W.heap.size:=by obtain ⟨m,hm⟩:=k1;exact DataW.trod_lt m _ _ _ hm
 obtain ⟨fu1,hf1⟩:=h1
 obtain ⟨ys1,c1,ok1⟩:=Go.Dn.trod_ok (Im:=(Go.Dn.St.start W).imm) 8 fu1 56 _ _ (by kernel_rfl) hf1 (λp hp=>Go.Dn.start_imm (lt1 p hp)) (λn hn=>by have:=List.all_eq_true.1 hsz n (DataW.weights_mem_each (j:=1) (t:=56) (d:=d1) rfl rfl n hn);simpa using this)
 obtain ⟨x1,rfl,o1⟩:=Go.Dn.Dec.sl Try.underlying56 (by kernel_rfl) Go.Dn.dec42 8 _ ok1
 have pv1:Go.Dn.PVR (Go.Dn.St.start W) (.v (.sl (x1.map Go.Dn.epactlaw24_Set.cs))) v1:=Go.Dn.pvr_one (by rw [Try.underlying56]) (hval 1 56 v1 rfl rfl) rfl c1
 try clear hA0 hval0 hsz0 hsz
 refine (Go.Dn.law_calls (X:=Go.Dn.CZ) Go.Dn.cz_ok (Go.Dn.Z3U (Go.Dn.stpOwn_true x0 x1 o0 o1)) (λg cells hg=>by cases hg) ⟨rfl,λi x hx=>?_⟩).mono λe W' ⟨he,bel⟩=>?_
 ·match i with
  | 0=>simp at hx;subst hx;exact pv0
  | 1=>simp at hx;subst hx;exact pv1
  | i+2=>simp at hx
 subst he
 exact ⟨_,rfl,_,_,_,[],_,[],hW',trodAll_mk1 (shut_bool Try.underlying4 _),(trodAll_cons_mk (Below.trod laidOut (by kernel_rfl) (of_decide_eq_true (by kernel_rfl)) k0 bel lt0) (trodAll_cons_mk (Below.trod laidOut (by kernel_rfl) (of_decide_eq_true (by kernel_rfl)) k1 bel lt1) trodAll_mk0)),rfl,bel.frame _,λh=>by cases h⟩

theorem over:Rows.stpOwnRow.holds Try.pinned (OpenSpec.ofChange Rows.stpOwnSpec) :=
 OpenClaim.holds_of_wide 13 Try.f13 rfl rfl rfl rfl rfl rfl rfl ⟨rfl,rfl,rfl,rfl,rfl⟩ rfl rfl rfl rfl rfl (by kernel_rfl) Try.func13 (by kernel_rfl)
  (of_decide_eq_true (by kernel_rfl)) (by unfold Func.isWrapper;first|(rw [if_pos (by decide +kernel)];kernel_rfl)|(rw [if_neg (by decide +kernel)];exact ⟨rfl,rfl⟩))
  (λos started H enc _=>lifted os started H enc)
end StpOwnP

theorem stpOwn_said:Rows.StpOwnSaid:=StpOwnP.over

end Go.Proofs.Ytochhophekfmbaa
