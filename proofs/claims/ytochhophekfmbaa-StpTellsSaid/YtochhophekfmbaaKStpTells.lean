/- The statement StpTells: the law's walk by the interpreter, and the row's step. -/
import Derived.Test.YtochhophekfmbaaRows
import Derived.WalkKit
import Derived.ProofKit
import Derived.OpenShut
import Derived.ShutString
import Derived.ChangeOld
import Derived.Below
import Derived.Carry
import Derived.SizedLaws
import Derived.Test.YtochhophekfmbaaM4
set_option linter.unusedVariables false
set_option linter.unusedSimpArgs false
namespace Go.Dn
open Go Go.Proofs
set_option maxRecDepth 100000 in
theorem dec32 : Dec Try.prog 32 Bound.cs Bound.ok := fun d ys ho => by
 cases d with
 | zero => exact ho.elim
 | succ d =>
  simp only [OKC, Try.underlying32] at ho
  obtain ⟨hl, hf⟩ := ho
  obtain ⟨x0, e0, o0⟩ := (Dec.int Try.underlying30) d _ (hf { name := "Inf", type := 30, offset := 0, embedded := false, tag := "", pkgPath := "", byteOffset := 0 } (by simp))
  have e0 : (ys.drop 0).take 1 = (cI .i8) x0 := e0
  obtain ⟨x1, e1, o1⟩ := (Dec.int Try.underlying3) d _ (hf { name := "N", type := 3, offset := 1, embedded := false, tag := "", pkgPath := "", byteOffset := 8 } (by simp))
  have e1 : (ys.drop 1).take 1 = (cI .i64) x1 := e1
  refine ⟨⟨x0, x1⟩, ?_, o0, o1⟩
  have hn : ys.length = 2 := hl
  have z : ys.drop 0 = _ := ((fld ys 0 1).symm.trans (congr (congrArg _ e0) ((fld ys 1 1).symm.trans (congr (congrArg _ e1) (fld_nil hn)))))
  rw [List.drop_zero] at z
  rw [z]
  rfl
set_option maxRecDepth 100000 in
theorem dec42 : Dec Try.prog 42 epactlaw24_Set.cs epactlaw24_Set.ok := fun d ys ho => by
 cases d with
 | zero => exact ho.elim
 | succ d =>
  simp only [OKC, Try.underlying42] at ho
  obtain ⟨hl, hf⟩ := ho
  obtain ⟨x0, e0, o0⟩ := (Dec.int Try.underlying3) d _ (hf { name := "I", type := 3, offset := 0, embedded := false, tag := "", pkgPath := "", byteOffset := 0 } (by simp))
  have e0 : (ys.drop 0).take 1 = (cI .i64) x0 := e0
  obtain ⟨x1, e1, o1⟩ := (Dec.int Try.underlying3) d _ (hf { name := "J", type := 3, offset := 1, embedded := false, tag := "", pkgPath := "", byteOffset := 8 } (by simp))
  have e1 : (ys.drop 1).take 1 = (cI .i64) x1 := e1
  obtain ⟨x2, e2, o2⟩ := dec32 d _ (hf { name := "Most", type := 32, offset := 2, embedded := false, tag := "", pkgPath := "", byteOffset := 16 } (by simp))
  have e2 : (ys.drop 2).take 2 = Bound.cs x2 := e2
  refine ⟨⟨x0, x1, x2⟩, ?_, o0, o1, o2⟩
  have hn : ys.length = 4 := hl
  have z : ys.drop 0 = _ := ((fld ys 0 1).symm.trans (congr (congrArg _ e0) ((fld ys 1 1).symm.trans (congr (congrArg _ e1) ((fld ys 2 2).symm.trans (congr (congrArg _ e2) (fld_nil hn)))))))
  rw [List.drop_zero] at z
  rw [z]
  rfl
end Go.Dn
namespace Go.Proofs.Ytochhophekfmbaa
open Go.ChangeShapes Go.WideShapes Go.ChangeAt Go.RowKit

namespace StpTellsP
theorem own : ownKnob Try.prog.godebug = none := by kernel_rfl
theorem laidOut : laidOutB Try.prog = true := by kernel_rfl

set_option maxRecDepth 100000 in
theorem lifted (os : Os) (started : os.Started) (H : Type) (enc : TypeId × Value → H) :
  ReturnsInHanded {} Try.checked os 9 .any (Rows.stpTellsSpec.pre6 enc Try.prog Try.f9 Rows.stpTellsRow.domain false) (Rows.stpTellsSpec.post enc Try.prog Try.f9 false true false false) := by
 refine returnsInHanded_of_change_sized (C := Try.checked) own started (by kernel_rfl) Try.func9
  (ChangeSpec.witness6 (enc := enc) (C := Try.checked) false ⟨#[], #[.int .i64 0, .slice none 0 0, .slice none 0 0, .agg #[.int .i64 0, .int .i64 0, .int .i8 0, .int .i64 0]], []⟩ 8 (by kernel_rfl) (by kernel_rfl) (by kernel_rfl) (by kernel_rfl)) ?_
 intro W base args ds gs before hval0 hW hcnd hsz0 _
 have hsz : (DataW.weightsEach Try.prog (Try.f9.params.toList ++ Rows.stpTellsSpec.plain.varTypes Try.prog) (ds ++ gs)).all (· ≤ reachBytes) = true := hsz0
 have hval : ∀ (j : Nat) t v, Try.f9.params[j]? = some t → args[j]? = some v → Value.okWide Try.prog W .any base t v := hval0
 have hW' := hW
 obtain ⟨p, q, hA0, hV, rfl, hfz, hnd⟩ := hW
 have hA : DataW.TrodAll enc Try.prog W 0 (fun _ => true) true Try.f9.params.toList args.toList ds p := hA0
 rw [Try.params9] at hA hval
 obtain ⟨v0, vs0, d0, ds0, p0, q0, hargs, rfl, rfl, h0, r0⟩ := trodAll_cons hA
 obtain ⟨v1, vs1, d1, ds1, p1, q1, rfl, rfl, rfl, h1, r1⟩ := trodAll_cons r0
 obtain ⟨v2, vs2, d2, ds2, p2, q2, rfl, rfl, rfl, h2, r2⟩ := trodAll_cons r1
 obtain ⟨v3, vs3, d3, ds3, p3, q3, rfl, rfl, rfl, h3, r3⟩ := trodAll_cons r2
 obtain ⟨rfl, rfl, rfl⟩ := trodAll_nil r3
 obtain rfl : args = #[v0, v1, v2, v3] := by cases args; simp_all
 obtain ⟨rfl, rfl⟩ := trodVars_none hV
 have k0 := h0
 have lt0 : ∀ x ∈ p0, x.block < W.heap.size := by obtain ⟨m, hm⟩ := k0; exact DataW.trod_lt m _ _ _ hm
 obtain ⟨fu0, hf0⟩ := h0
 obtain ⟨ys0, c0, ok0⟩ := Go.Dn.Z4H (Im := (Go.Dn.St.start W).imm) 8 fu0 3 _ _ (by kernel_rfl) hf0 (fun p hp => Go.Dn.Z4C (lt0 p hp)) (fun n hn => by have := List.all_eq_true.1 hsz n (DataW.weights_mem_each (j := 0) (t := 3) (d := d0) rfl rfl n hn); simpa using this)
 obtain ⟨x0, rfl, o0⟩ := Go.Dn.Dec.int Try.underlying3 8 _ ok0
 have pv0 : Go.Dn.PVR (Go.Dn.St.start W) (.v (.int .i64 x0)) v0 := Go.Dn.pvr_one (by rw [Try.underlying3]) (hval 0 3 v0 rfl rfl) rfl c0
 have k1 := h1
 have lt1 : ∀ x ∈ p1, x.block < W.heap.size := by obtain ⟨m, hm⟩ := k1; exact DataW.trod_lt m _ _ _ hm
 obtain ⟨fu1, hf1⟩ := h1
 obtain ⟨ys1, c1, ok1⟩ := Go.Dn.Z4H (Im := (Go.Dn.St.start W).imm) 8 fu1 39 _ _ (by kernel_rfl) hf1 (fun p hp => Go.Dn.Z4C (lt1 p hp)) (fun n hn => by have := List.all_eq_true.1 hsz n (DataW.weights_mem_each (j := 1) (t := 39) (d := d1) rfl rfl n hn); simpa using this)
 obtain ⟨x1, rfl, o1⟩ := Go.Dn.Dec.sl Try.underlying39 (by kernel_rfl) (Go.Dn.Dec.sl Try.underlying43 (by kernel_rfl) Go.Dn.dec32) 8 _ ok1
 have pv1 : Go.Dn.PVR (Go.Dn.St.start W) (.v (.sl (x1.map (Go.Dn.cL Go.Dn.Bound.cs)))) v1 := Go.Dn.pvr_one (by rw [Try.underlying39]) (hval 1 39 v1 rfl rfl) rfl c1
 have k2 := h2
 have lt2 : ∀ x ∈ p2, x.block < W.heap.size := by obtain ⟨m, hm⟩ := k2; exact DataW.trod_lt m _ _ _ hm
 obtain ⟨fu2, hf2⟩ := h2
 obtain ⟨ys2, c2, ok2⟩ := Go.Dn.Z4H (Im := (Go.Dn.St.start W).imm) 8 fu2 40 _ _ (by kernel_rfl) hf2 (fun p hp => Go.Dn.Z4C (lt2 p hp)) (fun n hn => by have := List.all_eq_true.1 hsz n (DataW.weights_mem_each (j := 2) (t := 40) (d := d2) rfl rfl n hn); simpa using this)
 obtain ⟨x2, rfl, o2⟩ := Go.Dn.Dec.sl Try.underlying40 (by kernel_rfl) (Go.Dn.Dec.int Try.underlying3) 8 _ ok2
 have pv2 : Go.Dn.PVR (Go.Dn.St.start W) (.v (.sl (x2.map (Go.Dn.cI .i64)))) v2 := Go.Dn.pvr_one (by rw [Try.underlying40]) (hval 2 40 v2 rfl rfl) rfl c2
 have k3 := h3
 have lt3 : ∀ x ∈ p3, x.block < W.heap.size := by obtain ⟨m, hm⟩ := k3; exact DataW.trod_lt m _ _ _ hm
 obtain ⟨fu3, hf3⟩ := h3
 obtain ⟨ys3, c3, ok3⟩ := Go.Dn.Z4H (Im := (Go.Dn.St.start W).imm) 8 fu3 42 _ _ (by kernel_rfl) hf3 (fun p hp => Go.Dn.Z4C (lt3 p hp)) (fun n hn => by have := List.all_eq_true.1 hsz n (DataW.weights_mem_each (j := 3) (t := 42) (d := d3) rfl rfl n hn); simpa using this)
 obtain ⟨x3, rfl, o3⟩ := Go.Dn.dec42 8 _ ok3
 have pv3 : Go.Dn.PVR (Go.Dn.St.start W) (.agg (Go.Dn.vs (Go.Dn.epactlaw24_Set.cs x3))) v3 := Go.Dn.pvr_agg Try.underlying42 (hval 3 42 v3 rfl rfl) rfl c3
 try clear hA0 hval0 hsz0 hsz
 refine (Go.Dn.law_calls (X := Go.Dn.CX) Go.Dn.cx_ok (Go.Dn.Z3f (Go.Dn.stpTells_true x0 x1 x2 x3 o0 o1 o2 o3)) (fun g cells hg => by cases hg) ⟨rfl, fun i x hx => ?_⟩).mono fun e W' ⟨he, bel⟩ => ?_
 ·match i with
  | 0 => simp at hx; subst hx; exact pv0
  | 1 => simp at hx; subst hx; exact pv1
  | 2 => simp at hx; subst hx; exact pv2
  | 3 => simp at hx; subst hx; exact pv3
  | i + 4 => simp at hx
 subst he
 exact ⟨_, rfl, _, _, _, [], _, [], hW', trodAll_mk1 (shut_bool Try.underlying4 _), (trodAll_cons_mk (Below.trod laidOut (by kernel_rfl) (of_decide_eq_true (by kernel_rfl)) k0 bel lt0) (trodAll_cons_mk (Below.trod laidOut (by kernel_rfl) (of_decide_eq_true (by kernel_rfl)) k1 bel lt1) (trodAll_cons_mk (Below.trod laidOut (by kernel_rfl) (of_decide_eq_true (by kernel_rfl)) k2 bel lt2) (trodAll_cons_mk (Below.trod laidOut (by kernel_rfl) (of_decide_eq_true (by kernel_rfl)) k3 bel lt3) trodAll_mk0)))), rfl, bel.frame _, fun h => by cases h⟩

theorem over : Rows.stpTellsRow.holds Try.pinned (OpenSpec.ofChange Rows.stpTellsSpec) :=
 OpenClaim.holds_of_wide 9 Try.f9 rfl rfl rfl rfl rfl rfl rfl ⟨rfl, rfl, rfl, rfl, rfl⟩ rfl rfl rfl rfl rfl (by kernel_rfl) Try.func9 (by kernel_rfl)
  (of_decide_eq_true (by kernel_rfl)) (by unfold Func.isWrapper; first | (rw [if_pos (by decide +kernel)]; kernel_rfl) | (rw [if_neg (by decide +kernel)]; exact ⟨rfl, rfl⟩))
  (fun os started H enc _ => lifted os started H enc)
end StpTellsP

theorem stpTells_said : Rows.StpTellsSaid := StpTellsP.over

end Go.Proofs.Ytochhophekfmbaa
