/- The statement BasisDates, as its tied card says it: the law's walk by the interpreter, the row's step, and the tie. -/
import Derived.Test.YtcfdfhbclakbpaaDoorRows
import Derived.Test.YtcfdfhbclakbpaaDoorCards
import Derived.Test.YtcfdfhbclakbpaaDoorTie
import Derived.LaidMore
import Derived.Lay
import Derived.SevenTiedAt
import Derived.Stop.Joined
import Derived.WalkKit
import Derived.ProofKit
import Derived.OpenShut
import Derived.ShutString
import Derived.ChangeOld
import Derived.Below
import Derived.Carry
import Derived.SizedLaws
import Derived.Test.YtcfdfhbclakbpaaDoorM3
set_option linter.unusedVariables false
set_option linter.unusedSimpArgs false
namespace Go.Dn
open Go Go.Proofs
end Go.Dn
namespace Go.Proofs.YtcfdfhbclakbpaaDoor
open Go.ChangeShapes Go.WideShapes Go.ChangeAt Go.RowKit

namespace BasisDatesP
theorem own:ownKnob Tryd.prog.godebug=none:=by kernel_rfl
theorem cell_lt {w:World} {a:Addr} {v:Value} (h:w.cell? a=some v):a.block<w.heap.size:=by
 unfold World.cell? at h
 split at h
 ·rename_i hb;exact (Array.getElem?_eq_some_iff.1 hb).1
 ·cases h
theorem laid_cell {W : World} (h : laidMetH Tryd.prog [("epact/civil.ahead", Rows.laid_epact_civil_ahead)] W) (r : Nat) (hr : r < 13) : W.cell? ⟨0, r, none⟩ = some (.int .i64 (Go.Dn.Z1E.getD r 0)) := by
 rw [MakeChecks.laidMetH_plain _ _ _ (by kernel_rfl)] at h
 obtain ⟨ps,⟨g,t,cs,fuel,p,q,hg,ht,hv,hd,_,_⟩,_,_⟩:=h
 obtain rfl := Option.some.inj ((show Tryd.prog.globalNamed "epact/civil.ahead" = some 0 by kernel_rfl).symm.trans hg)
 obtain rfl:=Option.some.inj ((show (Tryd.prog.globals[0]?).map (·.type)=some 104 by kernel_rfl).symm.trans ht)
 obtain ⟨xs,m,_,ex,_,hl,hel⟩:=DataW.trod_array Tryd.underlying104 hd
 have c5:Tryd.prog.cellsOf 3=1:=by kernel_rfl
 have hE:=hel r hr
 rw [c5,Nat.mul_one,List.getElem?_eq_getElem (by omega)] at hE
 obtain ⟨z,e1,e2,_⟩:=DataW.trod_int Tryd.underlying3 hE
 have hlen:Go.Dn.Z1E.length=13:=by kernel_rfl
 have e3:(xs.map (·.1))=Go.Dn.Z1E.map λn=>.lit (.int .i64 n):=(DataW.agg.inj (Prod.mk.inj ex).1).symm
 have e4:(xs.map (·.1))[r]? = (Go.Dn.Z1E.map λn=>(DataW.lit (.int .i64 n):DataW Unit))[r]?:=by rw [e3]
 rw [List.getElem?_map,List.getElem?_map,List.getElem?_eq_getElem (by omega:r<xs.length),List.getElem?_eq_getElem (by omega:r<Go.Dn.Z1E.length),e2] at e4
 have hz:z=Go.Dn.Z1E.getD r 0:=by
  simp only [Option.map_some,Option.some.injEq,DataW.lit.injEq,Lit.int.injEq,true_and] at e4
  rw [e4,List.getD,List.getElem?_eq_getElem (by omega:r<Go.Dn.Z1E.length)];rfl
 rw [World.var?_cell hg hv r,<- hz]
 have:cs.toList[r]? = some (.int .i64 z):=by
  have h0:((cs.toList.drop r).take 1)[0]? = some (.int .i64 z):=by rw [e1];rfl
  simpa using h0
 simpa using this
theorem glob_ok {W : World} (h : laidMetH Tryd.prog [("epact/civil.ahead", Rows.laid_epact_civil_ahead)] W) : Go.Dn.Zg Go.Dn.CZ (Go.Dn.St.start W) := fun g cells hg => by
 match g,hg with
 | 0,hg=>
  obtain rfl:=Option.some.inj hg
  have h0:=laid_cell h 0 (by decide)
  refine .fptr (Go.Dn.Z3r (cell_lt h0)) λj x hx=>?_
  rw [List.getElem?_map] at hx
  cases hj:Go.Dn.Z1E[j]? with
  | none=>rw [hj] at hx;cases hx
  | some z=>
   rw [hj] at hx
   cases hx
   have hlt:j<13:=(List.getElem?_eq_some_iff.1 hj).1
   have h1:=laid_cell h j hlt
   rw [List.getD_eq_getElem?_getD,hj] at h1
   exact ⟨_,by rw [Nat.zero_add];exact h1,.int _ _⟩
 | g+1,hg=>cases hg
theorem laidOut:laidOutB Tryd.prog=true:=by kernel_rfl

set_option maxRecDepth 100000 in
theorem lifted (os:Os) (started:os.Started) (H:Type) (enc:TypeId×Value->H) :
  ReturnsInHanded {} Tryd.checked os 5 .any (fun w args => (Rows.basisDatesSpec.pre enc Tryd.prog Tryd.f5 Rows.basisDatesRow.domain false w args ∧ laidMetH Tryd.prog [("epact/civil.ahead", Rows.laid_epact_civil_ahead)] w) ∧ sizedMet enc Tryd.prog Tryd.f5 (OpenSpec.ofChange Rows.basisDatesSpec) false w args) (Rows.basisDatesSpec.post enc Tryd.prog Tryd.f5 false true false false) := by
 refine returnsInHanded_of_change_and (C := Tryd.checked) (X := fun w _ => laidMetH Tryd.prog [("epact/civil.ahead", Rows.laid_epact_civil_ahead)] w) (fun _ _ _ hh h => h.of_heap hh) own started (by kernel_rfl) Tryd.func5
  (ChangeSpec.witness_shaped (enc := enc) (C := Tryd.checked) (os := os) (X := fun w _ => laidMetH Tryd.prog [("epact/civil.ahead", Rows.laid_epact_civil_ahead)] w) false (World.laidAll Tryd.prog os [("epact/civil.ahead", Rows.laid_epact_civil_ahead)]) #[.int .i64 0, .int .i64 0, .int .i64 0] 8 (World.laidAll_os _ _ _)
   (World.shaped_of_ZipB (by kernel_rfl) (by kernel_rfl)) (by kernel_rfl) (by kernel_rfl) (by kernel_rfl)
   (by rw [MakeChecks.laidMetH_plain _ _ _ (by kernel_rfl)];exact laidMet_laidAll _ (by kernel_rfl) (by kernel_rfl))) ?_
 intro W base args ds gs before hval0 hW hcnd hsz0 hL _
 have hsz:(DataW.weightsEach Tryd.prog (Tryd.f5.params.toList++Rows.basisDatesSpec.plain.varTypes Tryd.prog) (ds++gs)).all (·<=reachBytes)=true:=hsz0
 have hval:∀ (j:Nat) t v,Tryd.f5.params[j]? = some t->args[j]? = some v->Value.okWide Tryd.prog W .any base t v:=hval0
 have hW':=hW
 obtain ⟨p,q,hA0,hV,rfl,hfz,hnd⟩:=hW
 have hA:DataW.TrodAll enc Tryd.prog W 0 (λ_=>true) true Tryd.f5.params.toList args.toList ds p:=hA0
 rw [Tryd.params5] at hA hval
 obtain ⟨v0,vs0,d0,ds0,p0,q0,hargs,rfl,rfl,h0,r0⟩:=trodAll_cons hA
 obtain ⟨v1,vs1,d1,ds1,p1,q1,rfl,rfl,rfl,h1,r1⟩:=trodAll_cons r0
 obtain ⟨v2,vs2,d2,ds2,p2,q2,rfl,rfl,rfl,h2,r2⟩:=trodAll_cons r1
 obtain ⟨rfl,rfl,rfl⟩:=trodAll_nil r2
 obtain rfl:args = #[v0,v1,v2]:=by cases args;simp_all
 obtain ⟨rfl,rfl⟩:=trodVars_none hV
 have k0:=h0
 have lt0:∀ x∈p0,x.block<W.heap.size:=by obtain ⟨m,hm⟩:=k0;exact DataW.trod_lt m _ _ _ hm
 obtain ⟨fu0,hf0⟩:=h0
 obtain ⟨ys0,c0,ok0⟩:=Go.Dn.Z4w (Im:=(Go.Dn.St.start W).imm) 8 fu0 2 _ _ (by kernel_rfl) hf0 (λp hp=>Go.Dn.Z3r (lt0 p hp)) (λn hn=>by have:=List.all_eq_true.1 hsz n (DataW.weights_mem_each (j:=0) (t:=2) (d:=d0) rfl rfl n hn);simpa using this)
 obtain ⟨x0,rfl,o0⟩:=Go.Dn.Dec.int Tryd.underlying2 8 _ ok0
 have pv0:Go.Dn.PVR (Go.Dn.St.start W) (.v (.int .i64 x0)) v0:=Go.Dn.pvr_one (by rw [Tryd.underlying2]) (hval 0 2 v0 rfl rfl) rfl c0
 have k1:=h1
 have lt1:∀ x∈p1,x.block<W.heap.size:=by obtain ⟨m,hm⟩:=k1;exact DataW.trod_lt m _ _ _ hm
 obtain ⟨fu1,hf1⟩:=h1
 obtain ⟨ys1,c1,ok1⟩:=Go.Dn.Z4w (Im:=(Go.Dn.St.start W).imm) 8 fu1 3 _ _ (by kernel_rfl) hf1 (λp hp=>Go.Dn.Z3r (lt1 p hp)) (λn hn=>by have:=List.all_eq_true.1 hsz n (DataW.weights_mem_each (j:=1) (t:=3) (d:=d1) rfl rfl n hn);simpa using this)
 obtain ⟨x1,rfl,o1⟩:=Go.Dn.Dec.int Tryd.underlying3 8 _ ok1
 have pv1:Go.Dn.PVR (Go.Dn.St.start W) (.v (.int .i64 x1)) v1:=Go.Dn.pvr_one (by rw [Tryd.underlying3]) (hval 1 3 v1 rfl rfl) rfl c1
 have k2:=h2
 have lt2:∀ x∈p2,x.block<W.heap.size:=by obtain ⟨m,hm⟩:=k2;exact DataW.trod_lt m _ _ _ hm
 obtain ⟨fu2,hf2⟩:=h2
 obtain ⟨ys2,c2,ok2⟩:=Go.Dn.Z4w (Im:=(Go.Dn.St.start W).imm) 8 fu2 3 _ _ (by kernel_rfl) hf2 (λp hp=>Go.Dn.Z3r (lt2 p hp)) (λn hn=>by have:=List.all_eq_true.1 hsz n (DataW.weights_mem_each (j:=2) (t:=3) (d:=d2) rfl rfl n hn);simpa using this)
 obtain ⟨x2,rfl,o2⟩:=Go.Dn.Dec.int Tryd.underlying3 8 _ ok2
 have pv2:Go.Dn.PVR (Go.Dn.St.start W) (.v (.int .i64 x2)) v2:=Go.Dn.pvr_one (by rw [Tryd.underlying3]) (hval 2 3 v2 rfl rfl) rfl c2
 try clear hA0 hval0 hsz0 hsz
 refine (Go.Dn.law_calls (X:=Go.Dn.CZ) Go.Dn.cz_ok (Go.Dn.Z26 (Go.Dn.Z5u x0 x1 x2 o0 o1 o2)) (glob_ok hL) ⟨rfl,λi x hx=>?_⟩).mono λe W' ⟨he,bel⟩=>?_
 ·match i with
  | 0=>simp at hx;subst hx;exact pv0
  | 1=>simp at hx;subst hx;exact pv1
  | 2=>simp at hx;subst hx;exact pv2
  | i+3=>simp at hx
 subst he
 exact ⟨_,rfl,_,_,_,[],_,[],hW',trodAll_mk1 (shut_bool Tryd.underlying4 _),(trodAll_cons_mk (Below.trod laidOut (by kernel_rfl) (of_decide_eq_true (by kernel_rfl)) k0 bel lt0) (trodAll_cons_mk (Below.trod laidOut (by kernel_rfl) (of_decide_eq_true (by kernel_rfl)) k1 bel lt1) (trodAll_cons_mk (Below.trod laidOut (by kernel_rfl) (of_decide_eq_true (by kernel_rfl)) k2 bel lt2) trodAll_mk0))),rfl,bel.frame _,λh=>by cases h⟩

theorem over:Rows.basisDatesRow.holds Tryd.pinned (OpenSpec.ofChange Rows.basisDatesSpec) :=
 OpenClaim.holds_of_wide 5 Tryd.f5 rfl rfl rfl rfl rfl rfl rfl ⟨rfl,rfl,rfl,rfl,rfl⟩ rfl rfl rfl rfl rfl (by kernel_rfl) Tryd.func5 (by kernel_rfl)
  (of_decide_eq_true (by kernel_rfl)) (by unfold Func.isWrapper;first|(rw [if_pos (by decide +kernel)];kernel_rfl)|(rw [if_neg (by decide +kernel)];exact ⟨rfl,rfl⟩))
  (λos started H enc _=>lifted os started H enc)
theorem card:Rows.BasisDatesCardSaid :=
 Claim7.holds_tied_plain_at .later [] [.data] true (true, "7611a21b35205973d2f6461c1b9db925ab4b4dc65ec3b82b3c740a52de5084b7") false over (fun _ h => by cases h) (by kernel_rfl) (fun _ h => by cases h) basisDates_row_tie rfl ⟨rfl, rfl⟩ (by kernel_rfl) rfl
  (λf fn hf hfn=>by
   obtain rfl : f = 5 := Option.some.inj ((show Tryd.prog.funcNamed "epact/epactlaw08.BasisDates" = some 5 by kernel_rfl).symm.trans hf) |>.symm
   obtain rfl:fn=Tryd.f5:=(Option.some.inj (Tryd.func5.symm.trans hfn)).symm
   exact ⟨by kernel_rfl,λj t ht=>by
    rw [Tryd.params5] at ht
    have hm:t∈[2,3]:=by simpa using Array.mem_of_getElem? ht
    have hall:([2,3].all λu=>!Tryd.prog.wantsStandIn u)=true:=by kernel_rfl
    exact (show Tryd.prog.wantsStandIn t=false by simpa using List.all_eq_true.1 hall t hm)⟩)
  (by kernel_rfl)
end BasisDatesP

theorem basisDates_card:Rows.BasisDatesCardSaid:=BasisDatesP.card

end Go.Proofs.YtcfdfhbclakbpaaDoor

