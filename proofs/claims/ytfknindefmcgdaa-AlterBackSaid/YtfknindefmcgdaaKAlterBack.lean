/- The statement AlterBack: the law's walk by the interpreter, and the row's step. -/
import Derived.Test.YtfknindefmcgdaaRows
import Derived.WalkKit
import Derived.ProofKit
import Derived.OpenShut
import Derived.ShutString
import Derived.ChangeOld
import Derived.Below
import Derived.Carry
import Derived.SizedLaws
import Derived.Test.YtfknindefmcgdaaM5
set_option linter.unusedVariables false
set_option linter.unusedSimpArgs false
namespace Go.Dn
open Go Go.Proofs
set_option maxRecDepth 100000 in
theorem dec59 : Dec Try.prog 59 Span.cs Span.ok := fun d ys ho => by
 cases d with
 | zero => exact ho.elim
 | succ d =>
  simp only [OKC, Try.underlying59] at ho
  obtain ⟨hl, hf⟩ := ho
  obtain ⟨x0, e0, o0⟩ := (Dec.int Try.underlying3) d _ (hf { name := "From", type := 3, offset := 0, embedded := false, tag := "", pkgPath := "", byteOffset := 0 } (by simp))
  have e0 : (ys.drop 0).take 1 = (cI .i64) x0 := e0
  obtain ⟨x1, e1, o1⟩ := (Dec.int Try.underlying3) d _ (hf { name := "To", type := 3, offset := 1, embedded := false, tag := "", pkgPath := "", byteOffset := 8 } (by simp))
  have e1 : (ys.drop 1).take 1 = (cI .i64) x1 := e1
  refine ⟨⟨x0, x1⟩, ?_, o0, o1⟩
  have hn : ys.length = 2 := hl
  have z : ys.drop 0 = _ := ((fld ys 0 1).symm.trans (congr (congrArg _ e0) ((fld ys 1 1).symm.trans (congr (congrArg _ e1) (fld_nil hn)))))
  rw [List.drop_zero] at z
  rw [z]
  rfl
set_option maxRecDepth 100000 in
theorem dec61 : Dec Try.prog 61 Granule.cs Granule.ok := fun d ys ho => by
 cases d with
 | zero => exact ho.elim
 | succ d =>
  simp only [OKC, Try.underlying61] at ho
  obtain ⟨hl, hf⟩ := ho
  obtain ⟨x0, e0, o0⟩ := (Dec.int Try.underlying3) d _ (hf { name := "Index", type := 3, offset := 0, embedded := false, tag := "", pkgPath := "", byteOffset := 0 } (by simp))
  have e0 : (ys.drop 0).take 1 = (cI .i64) x0 := e0
  obtain ⟨x1, e1, o1⟩ := (Dec.sl Try.underlying37 (by kernel_rfl) dec59) d _ (hf { name := "Ticks", type := 37, offset := 1, embedded := false, tag := "", pkgPath := "", byteOffset := 8 } (by simp))
  have e1 : (ys.drop 1).take 1 = (cL Span.cs) x1 := e1
  refine ⟨⟨x0, x1⟩, ?_, o0, o1⟩
  have hn : ys.length = 2 := hl
  have z : ys.drop 0 = _ := ((fld ys 0 1).symm.trans (congr (congrArg _ e0) ((fld ys 1 1).symm.trans (congr (congrArg _ e1) (fld_nil hn)))))
  rw [List.drop_zero] at z
  rw [z]
  rfl
set_option maxRecDepth 100000 in
theorem dec25 : Dec Try.prog 25 Form.cs Form.ok := fun d ys ho => by
 cases d with
 | zero => exact ho.elim
 | succ d =>
  simp only [OKC, Try.underlying25] at ho
  obtain ⟨hl, hf⟩ := ho
  obtain ⟨x0, e0, o0⟩ := (Dec.int Try.underlying3) d _ (hf { name := "Period", type := 3, offset := 0, embedded := false, tag := "", pkgPath := "", byteOffset := 0 } (by simp))
  have e0 : (ys.drop 0).take 1 = (cI .i64) x0 := e0
  obtain ⟨x1, e1, o1⟩ := (Dec.int Try.underlying3) d _ (hf { name := "Count", type := 3, offset := 1, embedded := false, tag := "", pkgPath := "", byteOffset := 8 } (by simp))
  have e1 : (ys.drop 1).take 1 = (cI .i64) x1 := e1
  obtain ⟨x2, e2, o2⟩ := (Dec.sl Try.underlying22 (by kernel_rfl) (Dec.sl Try.underlying37 (by kernel_rfl) dec59)) d _ (hf { name := "Core", type := 22, offset := 2, embedded := false, tag := "", pkgPath := "", byteOffset := 16 } (by simp))
  have e2 : (ys.drop 2).take 1 = (cL (cL Span.cs)) x2 := e2
  obtain ⟨x3, e3, o3⟩ := (Dec.sl Try.underlying23 (by kernel_rfl) dec61) d _ (hf { name := "Odd", type := 23, offset := 3, embedded := false, tag := "", pkgPath := "", byteOffset := 40 } (by simp))
  have e3 : (ys.drop 3).take 1 = (cL Granule.cs) x3 := e3
  refine ⟨⟨x0, x1, x2, x3⟩, ?_, o0, o1, o2, o3⟩
  have hn : ys.length = 4 := hl
  have z : ys.drop 0 = _ := ((fld ys 0 1).symm.trans (congr (congrArg _ e0) ((fld ys 1 1).symm.trans (congr (congrArg _ e1) ((fld ys 2 1).symm.trans (congr (congrArg _ e2) ((fld ys 3 1).symm.trans (congr (congrArg _ e3) (fld_nil hn)))))))))
  rw [List.drop_zero] at z
  rw [z]
  rfl
end Go.Dn
namespace Go.Proofs.Ytfknindefmcgdaa
open Go.ChangeShapes Go.WideShapes Go.ChangeAt Go.RowKit

namespace AlterBackP
theorem own : ownKnob Try.prog.godebug = none := by kernel_rfl
theorem Z8S : laidOutB Try.prog = true := by kernel_rfl

set_option maxRecDepth 100000 in
theorem lifted (os : Os) (started : os.Started) (H : Type) (enc : TypeId × Value → H) :
  ReturnsInHanded {} Try.checked os 6 .any (Rows.alterBackSpec.pre6 enc Try.prog Try.f6 Rows.alterBackRow.domain false) (Rows.alterBackSpec.post enc Try.prog Try.f6 false true false false) := by
 refine returnsInHanded_of_change_sized (C := Try.checked) own started (by kernel_rfl) Try.func6
  (ChangeSpec.witness6 (enc := enc) (C := Try.checked) false ⟨#[], #[.agg #[.int .i64 0, .int .i64 0, .slice none 0 0, .slice none 0 0], .int .u8 0, .int .u8 0, .int .u8 0, .int .u8 0, .int .u8 0], []⟩ 8 (by kernel_rfl) (by kernel_rfl) (by kernel_rfl) (by kernel_rfl)) ?_
 intro W base args ds gs before hval0 hW hcnd hsz0 _
 have hsz : (DataW.weightsEach Try.prog (Try.f6.params.toList ++ Rows.alterBackSpec.plain.varTypes Try.prog) (ds ++ gs)).all (· ≤ reachBytes) = true := hsz0
 have hval : ∀ (j : Nat) t v, Try.f6.params[j]? = some t → args[j]? = some v → Value.okWide Try.prog W .any base t v := hval0
 have hW' := hW
 obtain ⟨p, q, hA0, hV, rfl, hfz, hnd⟩ := hW
 have hA : DataW.TrodAll enc Try.prog W 0 (fun _ => true) true Try.f6.params.toList args.toList ds p := hA0
 rw [Try.params6] at hA hval
 obtain ⟨v0, vs0, d0, ds0, p0, q0, hargs, rfl, rfl, h0, r0⟩ := trodAll_cons hA
 obtain ⟨v1, vs1, d1, ds1, p1, q1, rfl, rfl, rfl, h1, r1⟩ := trodAll_cons r0
 obtain ⟨v2, vs2, d2, ds2, p2, q2, rfl, rfl, rfl, h2, r2⟩ := trodAll_cons r1
 obtain ⟨v3, vs3, d3, ds3, p3, q3, rfl, rfl, rfl, h3, r3⟩ := trodAll_cons r2
 obtain ⟨v4, vs4, d4, ds4, p4, q4, rfl, rfl, rfl, h4, r4⟩ := trodAll_cons r3
 obtain ⟨v5, vs5, d5, ds5, p5, q5, rfl, rfl, rfl, h5, r5⟩ := trodAll_cons r4
 obtain ⟨rfl, rfl, rfl⟩ := trodAll_nil r5
 obtain rfl : args = #[v0, v1, v2, v3, v4, v5] := by cases args; simp_all
 obtain ⟨rfl, rfl⟩ := trodVars_none hV
 have k0 := h0
 have lt0 : ∀ x ∈ p0, x.block < W.heap.size := by obtain ⟨m, hm⟩ := k0; exact DataW.trod_lt m _ _ _ hm
 obtain ⟨fu0, hf0⟩ := h0
 obtain ⟨ys0, c0, ok0⟩ := Go.Dn.Z68 (Im := (Go.Dn.St.start W).imm) 8 fu0 25 _ _ (by kernel_rfl) hf0 (fun p hp => Go.Dn.Z5U (lt0 p hp)) (fun n hn => by have := List.all_eq_true.1 hsz n (DataW.weights_mem_each (j := 0) (t := 25) (d := d0) rfl rfl n hn); simpa using this)
 obtain ⟨x0, rfl, o0⟩ := Go.Dn.dec25 8 _ ok0
 have pv0 : Go.Dn.PVR (Go.Dn.St.start W) (.agg (Go.Dn.vs (Go.Dn.Form.cs x0))) v0 := Go.Dn.pvr_agg Try.underlying25 (hval 0 25 v0 rfl rfl) rfl c0
 have k1 := h1
 have lt1 : ∀ x ∈ p1, x.block < W.heap.size := by obtain ⟨m, hm⟩ := k1; exact DataW.trod_lt m _ _ _ hm
 obtain ⟨fu1, hf1⟩ := h1
 obtain ⟨ys1, c1, ok1⟩ := Go.Dn.Z68 (Im := (Go.Dn.St.start W).imm) 8 fu1 5 _ _ (by kernel_rfl) hf1 (fun p hp => Go.Dn.Z5U (lt1 p hp)) (fun n hn => by have := List.all_eq_true.1 hsz n (DataW.weights_mem_each (j := 1) (t := 5) (d := d1) rfl rfl n hn); simpa using this)
 obtain ⟨x1, rfl, o1⟩ := Go.Dn.Dec.int Try.underlying5 8 _ ok1
 have pv1 : Go.Dn.PVR (Go.Dn.St.start W) (.v (.int .u8 x1)) v1 := Go.Dn.Z9y (by rw [Try.underlying5]) (hval 1 5 v1 rfl rfl) rfl c1
 have k2 := h2
 have lt2 : ∀ x ∈ p2, x.block < W.heap.size := by obtain ⟨m, hm⟩ := k2; exact DataW.trod_lt m _ _ _ hm
 obtain ⟨fu2, hf2⟩ := h2
 obtain ⟨ys2, c2, ok2⟩ := Go.Dn.Z68 (Im := (Go.Dn.St.start W).imm) 8 fu2 5 _ _ (by kernel_rfl) hf2 (fun p hp => Go.Dn.Z5U (lt2 p hp)) (fun n hn => by have := List.all_eq_true.1 hsz n (DataW.weights_mem_each (j := 2) (t := 5) (d := d2) rfl rfl n hn); simpa using this)
 obtain ⟨x2, rfl, o2⟩ := Go.Dn.Dec.int Try.underlying5 8 _ ok2
 have pv2 : Go.Dn.PVR (Go.Dn.St.start W) (.v (.int .u8 x2)) v2 := Go.Dn.Z9y (by rw [Try.underlying5]) (hval 2 5 v2 rfl rfl) rfl c2
 have k3 := h3
 have lt3 : ∀ x ∈ p3, x.block < W.heap.size := by obtain ⟨m, hm⟩ := k3; exact DataW.trod_lt m _ _ _ hm
 obtain ⟨fu3, hf3⟩ := h3
 obtain ⟨ys3, c3, ok3⟩ := Go.Dn.Z68 (Im := (Go.Dn.St.start W).imm) 8 fu3 5 _ _ (by kernel_rfl) hf3 (fun p hp => Go.Dn.Z5U (lt3 p hp)) (fun n hn => by have := List.all_eq_true.1 hsz n (DataW.weights_mem_each (j := 3) (t := 5) (d := d3) rfl rfl n hn); simpa using this)
 obtain ⟨x3, rfl, o3⟩ := Go.Dn.Dec.int Try.underlying5 8 _ ok3
 have pv3 : Go.Dn.PVR (Go.Dn.St.start W) (.v (.int .u8 x3)) v3 := Go.Dn.Z9y (by rw [Try.underlying5]) (hval 3 5 v3 rfl rfl) rfl c3
 have k4 := h4
 have lt4 : ∀ x ∈ p4, x.block < W.heap.size := by obtain ⟨m, hm⟩ := k4; exact DataW.trod_lt m _ _ _ hm
 obtain ⟨fu4, hf4⟩ := h4
 obtain ⟨ys4, c4, ok4⟩ := Go.Dn.Z68 (Im := (Go.Dn.St.start W).imm) 8 fu4 5 _ _ (by kernel_rfl) hf4 (fun p hp => Go.Dn.Z5U (lt4 p hp)) (fun n hn => by have := List.all_eq_true.1 hsz n (DataW.weights_mem_each (j := 4) (t := 5) (d := d4) rfl rfl n hn); simpa using this)
 obtain ⟨x4, rfl, o4⟩ := Go.Dn.Dec.int Try.underlying5 8 _ ok4
 have pv4 : Go.Dn.PVR (Go.Dn.St.start W) (.v (.int .u8 x4)) v4 := Go.Dn.Z9y (by rw [Try.underlying5]) (hval 4 5 v4 rfl rfl) rfl c4
 have k5 := h5
 have lt5 : ∀ x ∈ p5, x.block < W.heap.size := by obtain ⟨m, hm⟩ := k5; exact DataW.trod_lt m _ _ _ hm
 obtain ⟨fu5, hf5⟩ := h5
 obtain ⟨ys5, c5, ok5⟩ := Go.Dn.Z68 (Im := (Go.Dn.St.start W).imm) 8 fu5 5 _ _ (by kernel_rfl) hf5 (fun p hp => Go.Dn.Z5U (lt5 p hp)) (fun n hn => by have := List.all_eq_true.1 hsz n (DataW.weights_mem_each (j := 5) (t := 5) (d := d5) rfl rfl n hn); simpa using this)
 obtain ⟨x5, rfl, o5⟩ := Go.Dn.Dec.int Try.underlying5 8 _ ok5
 have pv5 : Go.Dn.PVR (Go.Dn.St.start W) (.v (.int .u8 x5)) v5 := Go.Dn.Z9y (by rw [Try.underlying5]) (hval 5 5 v5 rfl rfl) rfl c5
 try clear hA0 hval0 hsz0 hsz
 refine (Go.Dn.law_calls (X := Go.Dn.CX) Go.Dn.cx_ok (Go.Dn.Z6n (Go.Dn.ZCh x0 x1 x2 x3 x4 x5 o0 o1 o2 o3 o4 o5)) (fun g cells hg => by cases hg) ⟨rfl, fun i x hx => ?_⟩).mono fun e W' ⟨he, bel⟩ => ?_
 ·match i with
  | 0 => simp at hx; subst hx; exact pv0
  | 1 => simp at hx; subst hx; exact pv1
  | 2 => simp at hx; subst hx; exact pv2
  | 3 => simp at hx; subst hx; exact pv3
  | 4 => simp at hx; subst hx; exact pv4
  | 5 => simp at hx; subst hx; exact pv5
  | i + 6 => simp at hx
 subst he
 exact ⟨_, rfl, _, _, _, [], _, [], hW', trodAll_mk1 (shut_bool Try.underlying4 _), (trodAll_cons_mk (Below.trod Z8S (by kernel_rfl) (of_decide_eq_true (by kernel_rfl)) k0 bel lt0) (trodAll_cons_mk (Below.trod Z8S (by kernel_rfl) (of_decide_eq_true (by kernel_rfl)) k1 bel lt1) (trodAll_cons_mk (Below.trod Z8S (by kernel_rfl) (of_decide_eq_true (by kernel_rfl)) k2 bel lt2) (trodAll_cons_mk (Below.trod Z8S (by kernel_rfl) (of_decide_eq_true (by kernel_rfl)) k3 bel lt3) (trodAll_cons_mk (Below.trod Z8S (by kernel_rfl) (of_decide_eq_true (by kernel_rfl)) k4 bel lt4) (trodAll_cons_mk (Below.trod Z8S (by kernel_rfl) (of_decide_eq_true (by kernel_rfl)) k5 bel lt5) trodAll_mk0)))))), rfl, bel.frame _, fun h => by cases h⟩

theorem over : Rows.alterBackRow.holds Try.pinned (OpenSpec.ofChange Rows.alterBackSpec) :=
 OpenClaim.holds_of_wide 6 Try.f6 rfl rfl rfl rfl rfl rfl rfl ⟨rfl, rfl, rfl, rfl, rfl⟩ rfl rfl rfl rfl rfl (by kernel_rfl) Try.func6 (by kernel_rfl)
  (of_decide_eq_true (by kernel_rfl)) (by unfold Func.isWrapper; first | (rw [if_pos (by decide +kernel)]; kernel_rfl) | (rw [if_neg (by decide +kernel)]; exact ⟨rfl, rfl⟩))
  (fun os started H enc _ => lifted os started H enc)
end AlterBackP

theorem alterBack_said : Rows.AlterBackSaid := AlterBackP.over

end Go.Proofs.Ytfknindefmcgdaa
