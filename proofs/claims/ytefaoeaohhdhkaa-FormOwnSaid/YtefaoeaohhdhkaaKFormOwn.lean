/- The statement FormOwn: the law's walk by the interpreter, and the row's step. -/
import Derived.Test.YtefaoeaohhdhkaaRows
import Derived.WalkKit
import Derived.ProofKit
import Derived.OpenShut
import Derived.ShutString
import Derived.ChangeOld
import Derived.Below
import Derived.Carry
import Derived.SizedLaws
import Derived.Test.YtefaoeaohhdhkaaM3
set_option linter.unusedVariables false
set_option linter.unusedSimpArgs false
namespace Go.Dn
open Go Go.Proofs
set_option maxRecDepth 100000 in
theorem dec43:Dec Try.prog 43 Span.cs Span.ok:=λd ys ho=>by
 cases d with
 | zero=>exact ho.elim
 | succ d=>
  simp only [OKC,Try.underlying43] at ho
  obtain ⟨hl,hf⟩:=ho
  obtain ⟨x0, e0, o0⟩ := (Dec.int Try.underlying3) d _ (hf { name := "From", type := 3, offset := 0, embedded := false, tag := "", pkgPath := "", byteOffset := 0 } (by simp))
  have e0:(ys.drop 0).take 1=(cI .i64) x0:=e0
  obtain ⟨x1, e1, o1⟩ := (Dec.int Try.underlying3) d _ (hf { name := "To", type := 3, offset := 1, embedded := false, tag := "", pkgPath := "", byteOffset := 8 } (by simp))
  have e1:(ys.drop 1).take 1=(cI .i64) x1:=e1
  refine ⟨⟨x0,x1⟩,?_,o0,o1⟩
  have hn:ys.length=2:=hl
  have z:ys.drop 0=_:=((fld ys 0 1).symm.trans (congr (congrArg _ e0) ((fld ys 1 1).symm.trans (congr (congrArg _ e1) (fld_nil hn)))))
  rw [List.drop_zero] at z
  rw [z]
  rfl
set_option maxRecDepth 100000 in
theorem dec45:Dec Try.prog 45 Granule.cs Granule.ok:=λd ys ho=>by
 cases d with
 | zero=>exact ho.elim
 | succ d=>
  simp only [OKC,Try.underlying45] at ho
  obtain ⟨hl,hf⟩:=ho
  obtain ⟨x0, e0, o0⟩ := (Dec.int Try.underlying3) d _ (hf { name := "Index", type := 3, offset := 0, embedded := false, tag := "", pkgPath := "", byteOffset := 0 } (by simp))
  have e0:(ys.drop 0).take 1=(cI .i64) x0:=e0
  obtain ⟨x1, e1, o1⟩ := (Dec.sl Try.underlying31 (by kernel_rfl) dec43) d _ (hf { name := "Ticks", type := 31, offset := 1, embedded := false, tag := "", pkgPath := "", byteOffset := 8 } (by simp))
  have e1:(ys.drop 1).take 1=(cL Span.cs) x1:=e1
  refine ⟨⟨x0,x1⟩,?_,o0,o1⟩
  have hn:ys.length=2:=hl
  have z:ys.drop 0=_:=((fld ys 0 1).symm.trans (congr (congrArg _ e0) ((fld ys 1 1).symm.trans (congr (congrArg _ e1) (fld_nil hn)))))
  rw [List.drop_zero] at z
  rw [z]
  rfl
set_option maxRecDepth 100000 in
theorem dec25:Dec Try.prog 25 Form.cs Form.ok:=λd ys ho=>by
 cases d with
 | zero=>exact ho.elim
 | succ d=>
  simp only [OKC,Try.underlying25] at ho
  obtain ⟨hl,hf⟩:=ho
  obtain ⟨x0, e0, o0⟩ := (Dec.int Try.underlying3) d _ (hf { name := "Period", type := 3, offset := 0, embedded := false, tag := "", pkgPath := "", byteOffset := 0 } (by simp))
  have e0:(ys.drop 0).take 1=(cI .i64) x0:=e0
  obtain ⟨x1, e1, o1⟩ := (Dec.int Try.underlying3) d _ (hf { name := "Count", type := 3, offset := 1, embedded := false, tag := "", pkgPath := "", byteOffset := 8 } (by simp))
  have e1:(ys.drop 1).take 1=(cI .i64) x1:=e1
  obtain ⟨x2, e2, o2⟩ := (Dec.sl Try.underlying22 (by kernel_rfl) (Dec.sl Try.underlying31 (by kernel_rfl) dec43)) d _ (hf { name := "Core", type := 22, offset := 2, embedded := false, tag := "", pkgPath := "", byteOffset := 16 } (by simp))
  have e2:(ys.drop 2).take 1=(cL (cL Span.cs)) x2:=e2
  obtain ⟨x3, e3, o3⟩ := (Dec.sl Try.underlying23 (by kernel_rfl) dec45) d _ (hf { name := "Odd", type := 23, offset := 3, embedded := false, tag := "", pkgPath := "", byteOffset := 40 } (by simp))
  have e3:(ys.drop 3).take 1=(cL Granule.cs) x3:=e3
  refine ⟨⟨x0,x1,x2,x3⟩,?_,o0,o1,o2,o3⟩
  have hn:ys.length=4:=hl
  have z:ys.drop 0=_:=((fld ys 0 1).symm.trans (congr (congrArg _ e0) ((fld ys 1 1).symm.trans (congr (congrArg _ e1) ((fld ys 2 1).symm.trans (congr (congrArg _ e2) ((fld ys 3 1).symm.trans (congr (congrArg _ e3) (fld_nil hn)))))))))
  rw [List.drop_zero] at z
  rw [z]
  rfl
end Go.Dn
namespace Go.Proofs.Ytefaoeaohhdhkaa
open Go.ChangeShapes Go.WideShapes Go.ChangeAt Go.RowKit

namespace FormOwnP
theorem own:ownKnob Try.prog.godebug=none:=by kernel_rfl
theorem laidOut:laidOutB Try.prog=true:=by kernel_rfl

set_option maxRecDepth 100000 in
theorem lifted (os:Os) (started:os.Started) (H:Type) (enc:TypeId×Value->H) :
  ReturnsInHanded {} Try.checked os 6 .any (Rows.formOwnSpec.pre6 enc Try.prog Try.f6 Rows.formOwnRow.domain false) (Rows.formOwnSpec.post enc Try.prog Try.f6 false true false false):=by
 refine returnsInHanded_of_change_sized (C:=Try.checked) own started (by kernel_rfl) Try.func6
  (ChangeSpec.witness6 (enc:=enc) (C:=Try.checked) false ⟨#[],#[.agg #[.int .i64 0,.int .i64 0,.slice none 0 0,.slice none 0 0],.int .i64 0],[]⟩ 8 (by kernel_rfl) (by kernel_rfl) (by kernel_rfl) (by kernel_rfl)) ?_
 intro W base args ds gs before hval0 hW hcnd hsz0 _
 have hsz:(DataW.weightsEach Try.prog (Try.f6.params.toList++Rows.formOwnSpec.plain.varTypes Try.prog) (ds++gs)).all (·<=reachBytes)=true:=hsz0
 have hval:∀ (j:Nat) t v,Try.f6.params[j]? = some t->args[j]? = some v->Value.okWide Try.prog W .any base t v:=hval0
 have hW':=hW
 obtain ⟨p,q,hA0,hV,rfl,hfz,hnd⟩:=hW
 have hA:DataW.TrodAll enc Try.prog W 0 (λ_=>true) true Try.f6.params.toList args.toList ds p:=hA0
 rw [Try.params6] at hA hval
 obtain ⟨v0,vs0,d0,ds0,p0,q0,hargs,rfl,rfl,h0,r0⟩:=trodAll_cons hA
 obtain ⟨v1,vs1,d1,ds1,p1,q1,rfl,rfl,rfl,h1,r1⟩:=trodAll_cons r0
 obtain ⟨rfl,rfl,rfl⟩:=trodAll_nil r1
 obtain rfl:args = #[v0,v1]:=by cases args;simp_all
 obtain ⟨rfl,rfl⟩:=trodVars_none hV
 have k0:=h0
 have lt0:∀ x∈p0,x.block<W.heap.size:=by obtain ⟨m,hm⟩:=k0;exact DataW.trod_lt m _ _ _ hm
 obtain ⟨fu0,hf0⟩:=h0
 obtain ⟨ys0,c0,ok0⟩:=Go.Dn.trod_ok (Im:=(Go.Dn.St.start W).imm) 8 fu0 25 _ _ (by kernel_rfl) hf0 (λp hp=>Go.Dn.start_imm (lt0 p hp)) (λn hn=>by have:=List.all_eq_true.1 hsz n (DataW.weights_mem_each (j:=0) (t:=25) (d:=d0) rfl rfl n hn);simpa using this)
 obtain ⟨x0,rfl,o0⟩:=Go.Dn.dec25 8 _ ok0
 have pv0:Go.Dn.PVR (Go.Dn.St.start W) (.agg (Go.Dn.vs (Go.Dn.Form.cs x0))) v0:=Go.Dn.pvr_agg Try.underlying25 (hval 0 25 v0 rfl rfl) rfl c0
 have k1:=h1
 have lt1:∀ x∈p1,x.block<W.heap.size:=by obtain ⟨m,hm⟩:=k1;exact DataW.trod_lt m _ _ _ hm
 obtain ⟨fu1,hf1⟩:=h1
 obtain ⟨ys1,c1,ok1⟩:=Go.Dn.trod_ok (Im:=(Go.Dn.St.start W).imm) 8 fu1 3 _ _ (by kernel_rfl) hf1 (λp hp=>Go.Dn.start_imm (lt1 p hp)) (λn hn=>by have:=List.all_eq_true.1 hsz n (DataW.weights_mem_each (j:=1) (t:=3) (d:=d1) rfl rfl n hn);simpa using this)
 obtain ⟨x1,rfl,o1⟩:=Go.Dn.Dec.int Try.underlying3 8 _ ok1
 have pv1:Go.Dn.PVR (Go.Dn.St.start W) (.v (.int .i64 x1)) v1:=Go.Dn.pvr_one (by rw [Try.underlying3]) (hval 1 3 v1 rfl rfl) rfl c1
 try clear hA0 hval0 hsz0 hsz
 refine (Go.Dn.law_calls (X:=Go.Dn.CZ) Go.Dn.cz_ok (Go.Dn.Z3A (Go.Dn.formOwn_true x0 x1 o0 o1)) (λg cells hg=>by cases hg) ⟨rfl,λi x hx=>?_⟩).mono λe W' ⟨he,bel⟩=>?_
 ·match i with
  | 0=>simp at hx;subst hx;exact pv0
  | 1=>simp at hx;subst hx;exact pv1
  | i+2=>simp at hx
 subst he
 exact ⟨_,rfl,_,_,_,[],_,[],hW',trodAll_mk1 (shut_bool Try.underlying4 _),(trodAll_cons_mk (Below.trod laidOut (by kernel_rfl) (of_decide_eq_true (by kernel_rfl)) k0 bel lt0) (trodAll_cons_mk (Below.trod laidOut (by kernel_rfl) (of_decide_eq_true (by kernel_rfl)) k1 bel lt1) trodAll_mk0)),rfl,bel.frame _,λh=>by cases h⟩

theorem over:Rows.formOwnRow.holds Try.pinned (OpenSpec.ofChange Rows.formOwnSpec) :=
 OpenClaim.holds_of_wide 6 Try.f6 rfl rfl rfl rfl rfl rfl rfl ⟨rfl,rfl,rfl,rfl,rfl⟩ rfl rfl rfl rfl rfl (by kernel_rfl) Try.func6 (by kernel_rfl)
  (of_decide_eq_true (by kernel_rfl)) (by unfold Func.isWrapper;first|(rw [if_pos (by decide +kernel)];kernel_rfl)|(rw [if_neg (by decide +kernel)];exact ⟨rfl,rfl⟩))
  (λos started H enc _=>lifted os started H enc)
end FormOwnP

theorem formOwn_said:Rows.FormOwnSaid:=FormOwnP.over

end Go.Proofs.Ytefaoeaohhdhkaa
