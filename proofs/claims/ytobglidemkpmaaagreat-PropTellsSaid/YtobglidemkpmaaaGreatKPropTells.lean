/- The statement PropTells: the law's walk by the interpreter, and the row's step. -/
import Derived.Test.YtobglidemkpmaaaGreatRows
import Derived.WalkKit
import Derived.ProofKit
import Derived.OpenShut
import Derived.ShutString
import Derived.ChangeOld
import Derived.Below
import Derived.Carry
import Derived.SizedLaws
import Derived.Test.YtobglidemkpmaaaGreatM6
set_option linter.unusedVariables false
set_option linter.unusedSimpArgs false
namespace Go.Dn
open Go Go.Proofs
set_option maxRecDepth 100000 in
theorem dec27:Dec Tryz.prog 27 Range.cs Range.ok:=λd ys ho=>by
 cases d with
 | zero=>exact ho.elim
 | succ d=>
  simp only [OKC,Tryz.underlying27] at ho
  obtain ⟨hl,hf⟩:=ho
  obtain ⟨x0, e0, o0⟩ := (Dec.int Tryz.underlying2) d _ (hf { name := "Low", type := 2, offset := 0, embedded := false, tag := "", pkgPath := "", byteOffset := 0 } (by simp))
  have e0:(ys.drop 0).take 1=(cI .i64) x0:=e0
  obtain ⟨x1, e1, o1⟩ := (Dec.int Tryz.underlying2) d _ (hf { name := "High", type := 2, offset := 1, embedded := false, tag := "", pkgPath := "", byteOffset := 8 } (by simp))
  have e1:(ys.drop 1).take 1=(cI .i64) x1:=e1
  obtain ⟨x2, e2, o2⟩ := (Dec.bool Tryz.underlying4) d _ (hf { name := "HasLow", type := 4, offset := 2, embedded := false, tag := "", pkgPath := "", byteOffset := 16 } (by simp))
  have e2:(ys.drop 2).take 1=cB x2:=e2
  obtain ⟨x3, e3, o3⟩ := (Dec.bool Tryz.underlying4) d _ (hf { name := "HasHigh", type := 4, offset := 3, embedded := false, tag := "", pkgPath := "", byteOffset := 17 } (by simp))
  have e3:(ys.drop 3).take 1=cB x3:=e3
  refine ⟨⟨x0,x1,x2,x3⟩,?_,o0,o1,o2,o3⟩
  have hn:ys.length=4:=hl
  have z:ys.drop 0=_:=((fld ys 0 1).symm.trans (congr (congrArg _ e0) ((fld ys 1 1).symm.trans (congr (congrArg _ e1) ((fld ys 2 1).symm.trans (congr (congrArg _ e2) ((fld ys 3 1).symm.trans (congr (congrArg _ e3) (Z9E hn)))))))))
  rw [List.drop_zero] at z
  rw [z]
  rfl
set_option maxRecDepth 100000 in
theorem dec108:Dec Tryz.prog 108 Span.cs Span.ok:=λd ys ho=>by
 cases d with
 | zero=>exact ho.elim
 | succ d=>
  simp only [OKC,Tryz.underlying108] at ho
  obtain ⟨hl,hf⟩:=ho
  obtain ⟨x0, e0, o0⟩ := (Dec.int Tryz.underlying3) d _ (hf { name := "From", type := 3, offset := 0, embedded := false, tag := "", pkgPath := "", byteOffset := 0 } (by simp))
  have e0:(ys.drop 0).take 1=(cI .i64) x0:=e0
  obtain ⟨x1, e1, o1⟩ := (Dec.int Tryz.underlying3) d _ (hf { name := "To", type := 3, offset := 1, embedded := false, tag := "", pkgPath := "", byteOffset := 8 } (by simp))
  have e1:(ys.drop 1).take 1=(cI .i64) x1:=e1
  refine ⟨⟨x0,x1⟩,?_,o0,o1⟩
  have hn:ys.length=2:=hl
  have z:ys.drop 0=_:=((fld ys 0 1).symm.trans (congr (congrArg _ e0) ((fld ys 1 1).symm.trans (congr (congrArg _ e1) (Z9E hn)))))
  rw [List.drop_zero] at z
  rw [z]
  rfl
set_option maxRecDepth 100000 in
theorem dec99:Dec Tryz.prog 99 Granule.cs Granule.ok:=λd ys ho=>by
 cases d with
 | zero=>exact ho.elim
 | succ d=>
  simp only [OKC,Tryz.underlying99] at ho
  obtain ⟨hl,hf⟩:=ho
  obtain ⟨x0, e0, o0⟩ := (Dec.int Tryz.underlying3) d _ (hf { name := "Index", type := 3, offset := 0, embedded := false, tag := "", pkgPath := "", byteOffset := 0 } (by simp))
  have e0:(ys.drop 0).take 1=(cI .i64) x0:=e0
  obtain ⟨x1, e1, o1⟩ := (Dec.sl Tryz.underlying97 (by kernel_rfl) dec108) d _ (hf { name := "Ticks", type := 97, offset := 1, embedded := false, tag := "", pkgPath := "", byteOffset := 8 } (by simp))
  have e1:(ys.drop 1).take 1=(cL Span.cs) x1:=e1
  refine ⟨⟨x0,x1⟩,?_,o0,o1⟩
  have hn:ys.length=2:=hl
  have z:ys.drop 0=_:=((fld ys 0 1).symm.trans (congr (congrArg _ e0) ((fld ys 1 1).symm.trans (congr (congrArg _ e1) (Z9E hn)))))
  rw [List.drop_zero] at z
  rw [z]
  rfl
set_option maxRecDepth 100000 in
theorem dec64:Dec Tryz.prog 64 Form.cs Form.ok:=λd ys ho=>by
 cases d with
 | zero=>exact ho.elim
 | succ d=>
  simp only [OKC,Tryz.underlying64] at ho
  obtain ⟨hl,hf⟩:=ho
  obtain ⟨x0, e0, o0⟩ := (Dec.int Tryz.underlying3) d _ (hf { name := "Period", type := 3, offset := 0, embedded := false, tag := "", pkgPath := "", byteOffset := 0 } (by simp))
  have e0:(ys.drop 0).take 1=(cI .i64) x0:=e0
  obtain ⟨x1, e1, o1⟩ := (Dec.int Tryz.underlying3) d _ (hf { name := "Count", type := 3, offset := 1, embedded := false, tag := "", pkgPath := "", byteOffset := 8 } (by simp))
  have e1:(ys.drop 1).take 1=(cI .i64) x1:=e1
  obtain ⟨x2, e2, o2⟩ := (Dec.sl Tryz.underlying61 (by kernel_rfl) (Dec.sl Tryz.underlying97 (by kernel_rfl) dec108)) d _ (hf { name := "Core", type := 61, offset := 2, embedded := false, tag := "", pkgPath := "", byteOffset := 16 } (by simp))
  have e2:(ys.drop 2).take 1=(cL (cL Span.cs)) x2:=e2
  obtain ⟨x3, e3, o3⟩ := (Dec.sl Tryz.underlying62 (by kernel_rfl) dec99) d _ (hf { name := "Odd", type := 62, offset := 3, embedded := false, tag := "", pkgPath := "", byteOffset := 40 } (by simp))
  have e3:(ys.drop 3).take 1=(cL Granule.cs) x3:=e3
  refine ⟨⟨x0,x1,x2,x3⟩,?_,o0,o1,o2,o3⟩
  have hn:ys.length=4:=hl
  have z:ys.drop 0=_:=((fld ys 0 1).symm.trans (congr (congrArg _ e0) ((fld ys 1 1).symm.trans (congr (congrArg _ e1) ((fld ys 2 1).symm.trans (congr (congrArg _ e2) ((fld ys 3 1).symm.trans (congr (congrArg _ e3) (Z9E hn)))))))))
  rw [List.drop_zero] at z
  rw [z]
  rfl
set_option maxRecDepth 100000 in
theorem dec42:Dec Tryz.prog 42 Con.cs Con.ok:=λd ys ho=>by
 cases d with
 | zero=>exact ho.elim
 | succ d=>
  simp only [OKC,Tryz.underlying42] at ho
  obtain ⟨hl,hf⟩:=ho
  obtain ⟨x0, e0, o0⟩ := (Dec.int Tryz.underlying3) d _ (hf { name := "X", type := 3, offset := 0, embedded := false, tag := "", pkgPath := "", byteOffset := 0 } (by simp))
  have e0:(ys.drop 0).take 1=(cI .i64) x0:=e0
  obtain ⟨x1, e1, o1⟩ := (Dec.int Tryz.underlying3) d _ (hf { name := "Y", type := 3, offset := 1, embedded := false, tag := "", pkgPath := "", byteOffset := 8 } (by simp))
  have e1:(ys.drop 1).take 1=(cI .i64) x1:=e1
  obtain ⟨x2, e2, o2⟩ := (Dec.int Tryz.underlying3) d _ (hf { name := "Form", type := 3, offset := 2, embedded := false, tag := "", pkgPath := "", byteOffset := 16 } (by simp))
  have e2:(ys.drop 2).take 1=(cI .i64) x2:=e2
  obtain ⟨x3, e3, o3⟩ := dec27 d _ (hf { name := "Range", type := 27, offset := 3, embedded := false, tag := "", pkgPath := "", byteOffset := 24 } (by simp))
  have e3:(ys.drop 3).take 4=Range.cs x3:=e3
  refine ⟨⟨x0,x1,x2,x3⟩,?_,o0,o1,o2,o3⟩
  have hn:ys.length=7:=hl
  have z:ys.drop 0=_:=((fld ys 0 1).symm.trans (congr (congrArg _ e0) ((fld ys 1 1).symm.trans (congr (congrArg _ e1) ((fld ys 2 1).symm.trans (congr (congrArg _ e2) ((fld ys 3 4).symm.trans (congr (congrArg _ e3) (Z9E hn)))))))))
  rw [List.drop_zero] at z
  rw [z]
  rfl
set_option maxRecDepth 100000 in
theorem dec25:Dec Tryz.prog 25 Net.cs Net.ok:=λd ys ho=>by
 cases d with
 | zero=>exact ho.elim
 | succ d=>
  simp only [OKC,Tryz.underlying25] at ho
  obtain ⟨hl,hf⟩:=ho
  obtain ⟨x0, e0, o0⟩ := (Dec.int Tryz.underlying3) d _ (hf { name := "Vars", type := 3, offset := 0, embedded := false, tag := "", pkgPath := "", byteOffset := 0 } (by simp))
  have e0:(ys.drop 0).take 1=(cI .i64) x0:=e0
  obtain ⟨x1, e1, o1⟩ := (Dec.sl Tryz.underlying22 (by kernel_rfl) dec64) d _ (hf { name := "Forms", type := 22, offset := 1, embedded := false, tag := "", pkgPath := "", byteOffset := 8 } (by simp))
  have e1:(ys.drop 1).take 1=(cL Form.cs) x1:=e1
  obtain ⟨x2, e2, o2⟩ := (Dec.sl Tryz.underlying23 (by kernel_rfl) dec42) d _ (hf { name := "Cons", type := 23, offset := 2, embedded := false, tag := "", pkgPath := "", byteOffset := 32 } (by simp))
  have e2:(ys.drop 2).take 1=(cL Con.cs) x2:=e2
  refine ⟨⟨x0,x1,x2⟩,?_,o0,o1,o2⟩
  have hn:ys.length=3:=hl
  have z:ys.drop 0=_:=((fld ys 0 1).symm.trans (congr (congrArg _ e0) ((fld ys 1 1).symm.trans (congr (congrArg _ e1) ((fld ys 2 1).symm.trans (congr (congrArg _ e2) (Z9E hn)))))))
  rw [List.drop_zero] at z
  rw [z]
  rfl
end Go.Dn
namespace Go.Proofs.YtobglidemkpmaaaGreat
open Go.ChangeShapes Go.WideShapes Go.ChangeAt Go.RowKit

namespace PropTellsP
theorem own:ownKnob Tryz.prog.godebug=none:=by kernel_rfl
theorem laidOut:laidOutB Tryz.prog=true:=by kernel_rfl

set_option maxRecDepth 100000 in
theorem lifted (os:Os) (started:os.Started) (H:Type) (enc:TypeId×Value->H) :
  ReturnsInHanded {} Tryz.checked os 6 .any (Rows.propTellsSpec.pre6 enc Tryz.prog Tryz.f6 Rows.propTellsRow.domain false) (Rows.propTellsSpec.post enc Tryz.prog Tryz.f6 false true false false):=by
 refine returnsInHanded_of_change_sized (C:=Tryz.checked) own started (by kernel_rfl) Tryz.func6
  (ChangeSpec.witness6 (enc:=enc) (C:=Tryz.checked) false ⟨#[],#[.agg #[.int .i64 0,.int .i64 0,.bool false,.bool false],.agg #[.int .i64 0,.int .i64 0,.bool false,.bool false],.agg #[.int .i64 0,.slice none 0 0,.slice none 0 0]],[]⟩ 8 (by kernel_rfl) (by kernel_rfl) (by kernel_rfl) (by kernel_rfl)) ?_
 intro W base args ds gs before hval0 hW hcnd hsz0 _
 have hsz:(DataW.weightsEach Tryz.prog (Tryz.f6.params.toList++Rows.propTellsSpec.plain.varTypes Tryz.prog) (ds++gs)).all (·<=reachBytes)=true:=hsz0
 have hval:∀ (j:Nat) t v,Tryz.f6.params[j]? = some t->args[j]? = some v->Value.okWide Tryz.prog W .any base t v:=hval0
 have hW':=hW
 obtain ⟨p,q,hA0,hV,rfl,hfz,hnd⟩:=hW
 have hA:DataW.TrodAll enc Tryz.prog W 0 (λ_=>true) true Tryz.f6.params.toList args.toList ds p:=hA0
 rw [Tryz.params6] at hA hval
 obtain ⟨v0,vs0,d0,ds0,p0,q0,hargs,rfl,rfl,h0,r0⟩:=trodAll_cons hA
 obtain ⟨v1,vs1,d1,ds1,p1,q1,rfl,rfl,rfl,h1,r1⟩:=trodAll_cons r0
 obtain ⟨v2,vs2,d2,ds2,p2,q2,rfl,rfl,rfl,h2,r2⟩:=trodAll_cons r1
 obtain ⟨rfl,rfl,rfl⟩:=trodAll_nil r2
 obtain rfl:args = #[v0,v1,v2]:=by cases args;simp_all
 obtain ⟨rfl,rfl⟩:=trodVars_none hV
 have k0:=h0
 have lt0:∀ x∈p0,x.block<W.heap.size:=by obtain ⟨m,hm⟩:=k0;exact DataW.trod_lt m _ _ _ hm
 obtain ⟨fu0,hf0⟩:=h0
 obtain ⟨ys0,c0,ok0⟩:=Go.Dn.ZAV (Im:=(Go.Dn.St.start W).imm) 8 fu0 27 _ _ (by kernel_rfl) hf0 (λp hp=>Go.Dn.ZBu (lt0 p hp)) (λn hn=>by have:=List.all_eq_true.1 hsz n (DataW.weights_mem_each (j:=0) (t:=27) (d:=d0) rfl rfl n hn);simpa using this)
 obtain ⟨x0,rfl,o0⟩:=Go.Dn.dec27 8 _ ok0
 have pv0:Go.Dn.PVR (Go.Dn.St.start W) (.agg (Go.Dn.vs (Go.Dn.Range.cs x0))) v0:=Go.Dn.pvr_agg Tryz.underlying27 (hval 0 27 v0 rfl rfl) rfl c0
 have k1:=h1
 have lt1:∀ x∈p1,x.block<W.heap.size:=by obtain ⟨m,hm⟩:=k1;exact DataW.trod_lt m _ _ _ hm
 obtain ⟨fu1,hf1⟩:=h1
 obtain ⟨ys1,c1,ok1⟩:=Go.Dn.ZAV (Im:=(Go.Dn.St.start W).imm) 8 fu1 27 _ _ (by kernel_rfl) hf1 (λp hp=>Go.Dn.ZBu (lt1 p hp)) (λn hn=>by have:=List.all_eq_true.1 hsz n (DataW.weights_mem_each (j:=1) (t:=27) (d:=d1) rfl rfl n hn);simpa using this)
 obtain ⟨x1,rfl,o1⟩:=Go.Dn.dec27 8 _ ok1
 have pv1:Go.Dn.PVR (Go.Dn.St.start W) (.agg (Go.Dn.vs (Go.Dn.Range.cs x1))) v1:=Go.Dn.pvr_agg Tryz.underlying27 (hval 1 27 v1 rfl rfl) rfl c1
 have k2:=h2
 have lt2:∀ x∈p2,x.block<W.heap.size:=by obtain ⟨m,hm⟩:=k2;exact DataW.trod_lt m _ _ _ hm
 obtain ⟨fu2,hf2⟩:=h2
 obtain ⟨ys2,c2,ok2⟩:=Go.Dn.ZAV (Im:=(Go.Dn.St.start W).imm) 8 fu2 25 _ _ (by kernel_rfl) hf2 (λp hp=>Go.Dn.ZBu (lt2 p hp)) (λn hn=>by have:=List.all_eq_true.1 hsz n (DataW.weights_mem_each (j:=2) (t:=25) (d:=d2) rfl rfl n hn);simpa using this)
 obtain ⟨x2,rfl,o2⟩:=Go.Dn.dec25 8 _ ok2
 have pv2:Go.Dn.PVR (Go.Dn.St.start W) (.agg (Go.Dn.vs (Go.Dn.Net.cs x2))) v2:=Go.Dn.pvr_agg Tryz.underlying25 (hval 2 25 v2 rfl rfl) rfl c2
 try clear hA0 hval0 hsz0 hsz
 refine (Go.Dn.law_calls (X:=Go.Dn.CX) Go.Dn.cx_ok (Go.Dn.Z7b (Go.Dn.ZDF x0 x1 x2 o0 o1 o2)) (λg cells hg=>by cases hg) ⟨rfl,λi x hx=>?_⟩).mono λe W' ⟨he,bel⟩=>?_
 ·match i with
  | 0=>simp at hx;subst hx;exact pv0
  | 1=>simp at hx;subst hx;exact pv1
  | 2=>simp at hx;subst hx;exact pv2
  | i+3=>simp at hx
 subst he
 exact ⟨_,rfl,_,_,_,[],_,[],hW',trodAll_mk1 (shut_bool Tryz.underlying4 _),(trodAll_cons_mk (Below.trod laidOut (by kernel_rfl) (of_decide_eq_true (by kernel_rfl)) k0 bel lt0) (trodAll_cons_mk (Below.trod laidOut (by kernel_rfl) (of_decide_eq_true (by kernel_rfl)) k1 bel lt1) (trodAll_cons_mk (Below.trod laidOut (by kernel_rfl) (of_decide_eq_true (by kernel_rfl)) k2 bel lt2) trodAll_mk0))),rfl,bel.frame _,λh=>by cases h⟩

theorem over:Rows.propTellsRow.holds Tryz.pinned (OpenSpec.ofChange Rows.propTellsSpec) :=
 OpenClaim.holds_of_wide 6 Tryz.f6 rfl rfl rfl rfl rfl rfl rfl ⟨rfl,rfl,rfl,rfl,rfl⟩ rfl rfl rfl rfl rfl (by kernel_rfl) Tryz.func6 (by kernel_rfl)
  (of_decide_eq_true (by kernel_rfl)) (by unfold Func.isWrapper;first|(rw [if_pos (by decide +kernel)];kernel_rfl)|(rw [if_neg (by decide +kernel)];exact ⟨rfl,rfl⟩))
  (λos started H enc _=>lifted os started H enc)
end PropTellsP

theorem propTells_said:Rows.PropTellsSaid:=PropTellsP.over

end Go.Proofs.YtobglidemkpmaaaGreat
