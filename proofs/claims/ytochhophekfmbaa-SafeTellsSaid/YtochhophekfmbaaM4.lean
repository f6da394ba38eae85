/- Part 4 of what the row stands on. -/
import Derived.Test.YtochhophekfmbaaM3
set_option linter.unusedVariables false
set_option linter.unusedSimpArgs false
namespace Go.Dn
open Go Go.Proofs

set_option maxRecDepth 100000 in
set_option maxHeartbeats 4000000 in
theorem epactref01_product_fn {a : epactref01_long} {b : epactref01_long} {r : epactref01_long} (h : epactref01_product a b = some r) : Fn CX 56 [(.agg (vs (epactref01_long.cs a))), (.agg (vs (epactref01_long.cs b)))] (.agg (vs (epactref01_long.cs r))) := by
  refine Fn.ends Try.func56 rfl rfl rfl rfl rfl rfl ?_
  have H : Hs (⟨0, fun _ => .none⟩ : Heap) [] := Has.nil (Nat.le_refl _)
  generalize (⟨0, fun _ => .none⟩ : Heap) = σ at H ⊢
  unfold epactref01_product at h
  apply Runs.then
  refine Runs.regionH 3 rfl H ?_; intro b1 σ H
  refine Ops.boxH (v := (.agg [(.v (.bool a.minus)), (.v (.int .u32 a.digits.d0)), (.v (.int .u32 a.digits.d1)), (.v (.int .u32 a.digits.d2)), (.v (.int .u32 a.digits.d3)), (.v (.int .u32 a.digits.d4)), (.v (.int .u32 a.digits.d5)), (.v (.int .u32 a.digits.d6)), (.v (.int .u32 a.digits.d7)), (.v (.int .u32 a.digits.d8))])) (cs := [(.v (.bool a.minus)), (.v (.int .u32 a.digits.d0)), (.v (.int .u32 a.digits.d1)), (.v (.int .u32 a.digits.d2)), (.v (.int .u32 a.digits.d3)), (.v (.int .u32 a.digits.d4)), (.v (.int .u32 a.digits.d5)), (.v (.int .u32 a.digits.d6)), (.v (.int .u32 a.digits.d7)), (.v (.int .u32 a.digits.d8))]) H (by omega) (by omega) rfl rfl rfl ?_; intro σ H
  refine Ops.boxH (v := (.agg [(.v (.bool b.minus)), (.v (.int .u32 b.digits.d0)), (.v (.int .u32 b.digits.d1)), (.v (.int .u32 b.digits.d2)), (.v (.int .u32 b.digits.d3)), (.v (.int .u32 b.digits.d4)), (.v (.int .u32 b.digits.d5)), (.v (.int .u32 b.digits.d6)), (.v (.int .u32 b.digits.d7)), (.v (.int .u32 b.digits.d8))])) (cs := [(.v (.bool b.minus)), (.v (.int .u32 b.digits.d0)), (.v (.int .u32 b.digits.d1)), (.v (.int .u32 b.digits.d2)), (.v (.int .u32 b.digits.d3)), (.v (.int .u32 b.digits.d4)), (.v (.int .u32 b.digits.d5)), (.v (.int .u32 b.digits.d6)), (.v (.int .u32 b.digits.d7)), (.v (.int .u32 b.digits.d8))]) H (by omega) (by omega) rfl rfl rfl ?_; intro σ H
  refine Ops.allocH (cs := [(.v (.bool false)), (.v (.int .u32 0)), (.v (.int .u32 0)), (.v (.int .u32 0)), (.v (.int .u32 0)), (.v (.int .u32 0)), (.v (.int .u32 0)), (.v (.int .u32 0)), (.v (.int .u32 0)), (.v (.int .u32 0))]) H (by omega) (by omega) rfl rfl ?_; intro σ H
  apply Ops.nil
  replace H := H.all
  apply Runs.then
  refine Runs.regionH 8 rfl H ?_; intro b2 σ H
  refine Ops.fieldAddrH (off := 0) (fo := 0) H 2 rfl rfl rfl rfl rfl nofun rfl ?_
  refine Ops.loadH (off := 0) (v := (.v (.bool a.minus))) H 2 rfl rfl rfl rfl rfl nofun rfl ?_
  refine Ops.fieldAddrH (off := 0) (fo := 0) H 1 rfl rfl rfl rfl rfl nofun rfl ?_
  refine Ops.loadH (off := 0) (v := (.v (.bool b.minus))) H 1 rfl rfl rfl rfl rfl nofun rfl ?_
  refine Ops.neB (b := a.minus) (b' := b.minus) rfl rfl rfl rfl ?_
  refine Ops.buildA (cs := [(.v (.bool (a.minus != b.minus))), (.v (.int .u32 0)), (.v (.int .u32 0)), (.v (.int .u32 0)), (.v (.int .u32 0)), (.v (.int .u32 0)), (.v (.int .u32 0)), (.v (.int .u32 0)), (.v (.int .u32 0)), (.v (.int .u32 0))]) rfl rfl ?_
  refine Ops.allocH (cs := [(.v (.bool false)), (.v (.int .u32 0)), (.v (.int .u32 0)), (.v (.int .u32 0)), (.v (.int .u32 0)), (.v (.int .u32 0)), (.v (.int .u32 0)), (.v (.int .u32 0)), (.v (.int .u32 0)), (.v (.int .u32 0))]) H (by omega) (by omega) rfl rfl ?_; intro σ H
  refine Ops.storeH (off := 0) (v := (.agg [(.v (.bool (a.minus != b.minus))), (.v (.int .u32 0)), (.v (.int .u32 0)), (.v (.int .u32 0)), (.v (.int .u32 0)), (.v (.int .u32 0)), (.v (.int .u32 0)), (.v (.int .u32 0)), (.v (.int .u32 0)), (.v (.int .u32 0))])) (ys := [(.v (.bool (a.minus != b.minus))), (.v (.int .u32 0)), (.v (.int .u32 0)), (.v (.int .u32 0)), (.v (.int .u32 0)), (.v (.int .u32 0)), (.v (.int .u32 0)), (.v (.int .u32 0)), (.v (.int .u32 0)), (.v (.int .u32 0))]) (cells' := [(.v (.bool (a.minus != b.minus))), (.v (.int .u32 0)), (.v (.int .u32 0)), (.v (.int .u32 0)), (.v (.int .u32 0)), (.v (.int .u32 0)), (.v (.int .u32 0)), (.v (.int .u32 0)), (.v (.int .u32 0)), (.v (.int .u32 0))]) H 0 rfl rfl rfl rfl rfl rfl rfl rfl rfl nofun ?_; intro σ H
  apply Ops.nil
  replace H := H.all
  apply Runs.then
  apply Runs.then
  refine Runs.regionH 1 rfl H ?_; intro b3 σ H
  refine Ops.assign (v := (.v (.int .i64 0))) rfl rfl ?_
  apply Ops.nil
  replace H := H.all
  apply Runs.inBlock
  apply Runs.again
  apply Runs.then
  apply Runs.then
  refine Runs.regionH 2 rfl H ?_; intro b4 σ H
  refine Ops.move (v := (.v (.int .i64 0))) rfl rfl ?_
  refine Ops.int (m := 0) (m' := 4) (r := .bool true) rfl rfl rfl rfl rfl ?_
  apply Ops.nil
  replace H := H.all
  refine Runs.yes rfl ?_
  apply Runs.skip
  apply Runs.then
  apply Runs.inBlock
  apply Runs.then
  refine Runs.regionH 1 rfl H ?_; intro b5 σ H
  refine Ops.allocH (cs := [(.v (.int .u32 0)), (.v (.int .u32 0)), (.v (.int .u32 0)), (.v (.int .u32 0)), (.v (.int .u32 0)), (.v (.int .u32 0)), (.v (.int .u32 0)), (.v (.int .u32 0)), (.v (.int .u32 0))]) H (by omega) (by omega) rfl rfl ?_; intro σ H
  apply Ops.nil
  replace H := H.all
  apply Runs.then
  refine Runs.regionH 1 rfl H ?_; intro b6 σ H
  refine Ops.assign (v := (.v (.int .u32 0))) rfl rfl ?_
  apply Ops.nil
  replace H := H.all
  apply Runs.then
  apply Runs.then
  refine Runs.regionH 1 rfl H ?_; intro b7 σ H
  refine Ops.assign (v := (.v (.int .i64 0))) rfl rfl ?_
  apply Ops.nil
  replace H := H.all
  apply Runs.inBlock
  apply Runs.again
  apply Runs.then
  apply Runs.then
  refine Runs.regionH 2 rfl H ?_; intro b8 σ H
  refine Ops.move (v := (.v (.int .i64 0))) rfl rfl ?_
  refine Ops.int (m := 0) (m' := 5) (r := .bool true) rfl rfl rfl rfl rfl ?_
  apply Ops.nil
  replace H := H.all
  refine Runs.yes rfl ?_
  apply Runs.skip
  apply Runs.then
  apply Runs.inBlock
  apply Runs.then
  refine Runs.drawnH 12 rfl (by kernel_rfl) H ?_; intro b9 σ H B9
  refine Ops.move (v := (.v (.int .i64 0))) rfl rfl ?_
  refine Ops.fieldAddrH (off := 0) (fo := 1) H 4 rfl rfl rfl rfl rfl (fun _ => .inl ⟨B9 4 _ rfl _ rfl, nofun⟩) rfl ?_
  refine Ops.arrAddrH (off := 1) (m := 9) (s := 1) (iv := 0) H 4 rfl rfl rfl rfl (by decide) (by decide) rfl rfl (fun _ => .inl ⟨B9 4 _ rfl _ rfl, nofun⟩) rfl ?_
  refine Ops.loadH (off := 1) (v := (.v (.int .u32 a.digits.d0))) H 4 rfl rfl rfl rfl rfl (fun _ => .inl ⟨B9 4 _ rfl _ rfl, nofun⟩) rfl ?_
  refine Ops.move (v := (.v (.int .i64 0))) rfl rfl ?_
  refine Ops.fieldAddrH (off := 0) (fo := 1) H 3 rfl rfl rfl rfl rfl (fun _ => .inl ⟨B9 3 _ rfl _ rfl, nofun⟩) rfl ?_
  refine Ops.arrAddrH (off := 1) (m := 9) (s := 1) (iv := 0) H 3 rfl rfl rfl rfl (by decide) (by decide) rfl rfl (fun _ => .inl ⟨B9 3 _ rfl _ rfl, nofun⟩) rfl ?_
  refine Ops.loadH (off := 1) (v := (.v (.int .u32 b.digits.d0))) H 3 rfl rfl rfl rfl rfl (fun _ => .inl ⟨B9 3 _ rfl _ rfl, nofun⟩) rfl ?_
  refine Ops.int (m := a.digits.d0) (m' := b.digits.d0) (r := .int .u32 (IntKind.u32.wrap (a.digits.d0 * b.digits.d0))) rfl rfl rfl rfl rfl ?_
  refine Ops.move (v := (.v (.int .u32 0))) rfl rfl ?_
  refine Ops.int (m := (IntKind.u32.wrap (a.digits.d0 * b.digits.d0))) (m' := 0) (r := .int .u32 (IntKind.u32.wrap ((IntKind.u32.wrap (a.digits.d0 * b.digits.d0)) + 0))) rfl rfl rfl rfl rfl ?_
  obtain ⟨x1, q1, h⟩ := bind_some h
  refine Ops.assign (v := (.v (.int .u32 x1))) (by rw [← Option.some.inj q1]; rfl) rfl ?_
  apply Ops.nil
  replace H := H.all
  apply Runs.then
  refine Runs.regionH 7 rfl H ?_; intro b10 σ H
  refine Ops.move (v := (.v (.int .i64 0))) rfl rfl ?_
  refine Ops.move (v := (.v (.int .i64 0))) rfl rfl ?_
  refine Ops.int (m := 0) (m' := 0) (r := .int .i64 0) rfl rfl rfl rfl rfl ?_
  refine Ops.move (v := (.v (.int .u32 x1))) rfl rfl ?_
  refine Ops.rem (m := x1) (m' := 65536) rfl rfl (by decide) rfl ?_
  refine Ops.arrAddrH (off := 0) (m := 9) (s := 1) (iv := 0) H 0 rfl rfl rfl rfl (by decide) (by decide) rfl rfl nofun rfl ?_
  refine Ops.storeH (off := 0) (v := (.v (.int .u32 (x1.tmod 65536)))) (ys := [(.v (.int .u32 (x1.tmod 65536)))]) (cells' := [(.v (.int .u32 (x1.tmod 65536))), (.v (.int .u32 0)), (.v (.int .u32 0)), (.v (.int .u32 0)), (.v (.int .u32 0)), (.v (.int .u32 0)), (.v (.int .u32 0)), (.v (.int .u32 0)), (.v (.int .u32 0))]) H 0 rfl rfl rfl rfl rfl rfl rfl rfl rfl nofun ?_; intro σ H
  apply Ops.nil
  replace H := H.all
  refine Runs.regionH 3 rfl H ?_; intro b11 σ H
  refine Ops.move (v := (.v (.int .u32 x1))) rfl rfl ?_
  refine Ops.quo (m := x1) (m' := 65536) rfl rfl (by decide) rfl ?_
  obtain ⟨x2, q2, h⟩ := bind_some h
  refine Ops.assign (v := (.v (.int .u32 x2))) (by rw [← Option.some.inj q2]; rfl) rfl ?_
  apply Ops.nil
  replace H := H.all
  refine Runs.regionH 3 rfl H ?_; intro b12 σ H
  refine Ops.move (v := (.v (.int .i64 0))) rfl rfl ?_
  refine Ops.int (m := 0) (m' := 1) (r := .int .i64 1) rfl rfl rfl rfl rfl ?_
  refine Ops.assign (v := (.v (.int .i64 1))) rfl rfl ?_
  apply Ops.nil
  replace H := H.all
  apply Runs.again
  apply Runs.then
  apply Runs.then
  refine Runs.regionH 2 rfl H ?_; intro b13 σ H
  refine Ops.move (v := (.v (.int .i64 1))) rfl rfl ?_
  refine Ops.int (m := 1) (m' := 5) (r := .bool true) rfl rfl rfl rfl rfl ?_
  apply Ops.nil
  replace H := H.all
  refine Runs.yes rfl ?_
  apply Runs.skip
  apply Runs.then
  apply Runs.inBlock
  apply Runs.then
  refine Runs.drawnH 12 rfl (by kernel_rfl) H ?_; intro b14 σ H B14
  refine Ops.move (v := (.v (.int .i64 0))) rfl rfl ?_
  refine Ops.fieldAddrH (off := 0) (fo := 1) H 4 rfl rfl rfl rfl rfl (fun _ => .inl ⟨B14 4 _ rfl _ rfl, nofun⟩) rfl ?_
  refine Ops.arrAddrH (off := 1) (m := 9) (s := 1) (iv := 0) H 4 rfl rfl rfl rfl (by decide) (by decide) rfl rfl (fun _ => .inl ⟨B14 4 _ rfl _ rfl, nofun⟩) rfl ?_
  refine Ops.loadH (off := 1) (v := (.v (.int .u32 a.digits.d0))) H 4 rfl rfl rfl rfl rfl (fun _ => .inl ⟨B14 4 _ rfl _ rfl, nofun⟩) rfl ?_
  refine Ops.move (v := (.v (.int .i64 1))) rfl rfl ?_
  refine Ops.fieldAddrH (off := 0) (fo := 1) H 3 rfl rfl rfl rfl rfl (fun _ => .inl ⟨B14 3 _ rfl _ rfl, nofun⟩) rfl ?_
  refine Ops.arrAddrH (off := 1) (m := 9) (s := 1) (iv := 1) H 3 rfl rfl rfl rfl (by decide) (by decide) rfl rfl (fun _ => .inl ⟨B14 3 _ rfl _ rfl, nofun⟩) rfl ?_
  refine Ops.loadH (off := 2) (v := (.v (.int .u32 b.digits.d1))) H 3 rfl rfl rfl rfl rfl (fun _ => .inl ⟨B14 3 _ rfl _ rfl, nofun⟩) rfl ?_
  refine Ops.int (m := a.digits.d0) (m' := b.digits.d1) (r := .int .u32 (IntKind.u32.wrap (a.digits.d0 * b.digits.d1))) rfl rfl rfl rfl rfl ?_
  refine Ops.move (v := (.v (.int .u32 x2))) rfl rfl ?_
  refine Ops.int (m := (IntKind.u32.wrap (a.digits.d0 * b.digits.d1))) (m' := x2) (r := .int .u32 (IntKind.u32.wrap ((IntKind.u32.wrap (a.digits.d0 * b.digits.d1)) + x2))) rfl rfl rfl rfl rfl ?_
  obtain ⟨x3, q3, h⟩ := bind_some h
  refine Ops.assign (v := (.v (.int .u32 x3))) (by rw [← Option.some.inj q3]; rfl) rfl ?_
  apply Ops.nil
  replace H := H.all
  apply Runs.then
  refine Runs.regionH 7 rfl H ?_; intro b15 σ H
  refine Ops.move (v := (.v (.int .i64 0))) rfl rfl ?_
  refine Ops.move (v := (.v (.int .i64 1))) rfl rfl ?_
  refine Ops.int (m := 0) (m' := 1) (r := .int .i64 1) rfl rfl rfl rfl rfl ?_
  refine Ops.move (v := (.v (.int .u32 x3))) rfl rfl ?_
  refine Ops.rem (m := x3) (m' := 65536) rfl rfl (by decide) rfl ?_
  refine Ops.arrAddrH (off := 0) (m := 9) (s := 1) (iv := 1) H 0 rfl rfl rfl rfl (by decide) (by decide) rfl rfl nofun rfl ?_
  refine Ops.storeH (off := 1) (v := (.v (.int .u32 (x3.tmod 65536)))) (ys := [(.v (.int .u32 (x3.tmod 65536)))]) (cells' := [(.v (.int .u32 (x1.tmod 65536))), (.v (.int .u32 (x3.tmod 65536))), (.v (.int .u32 0)), (.v (.int .u32 0)), (.v (.int .u32 0)), (.v (.int .u32 0)), (.v (.int .u32 0)), (.v (.int .u32 0)), (.v (.int .u32 0))]) H 0 rfl rfl rfl rfl rfl rfl rfl rfl rfl nofun ?_; intro σ H
  apply Ops.nil
  replace H := H.all
  refine Runs.regionH 3 rfl H ?_; intro b16 σ H
  refine Ops.move (v := (.v (.int .u32 x3))) rfl rfl ?_
  refine Ops.quo (m := x3) (m' := 65536) rfl rfl (by decide) rfl ?_
  obtain ⟨x4, q4, h⟩ := bind_some h
  refine Ops.assign (v := (.v (.int .u32 x4))) (by rw [← Option.some.inj q4]; rfl) rfl ?_
  apply Ops.nil
  replace H := H.all
  refine Runs.regionH 3 rfl H ?_; intro b17 σ H
  refine Ops.move (v := (.v (.int .i64 1))) rfl rfl ?_
  refine Ops.int (m := 1) (m' := 1) (r := .int .i64 2) rfl rfl rfl rfl rfl ?_
  refine Ops.assign (v := (.v (.int .i64 2))) rfl rfl ?_
  apply Ops.nil
  replace H := H.all
  apply Runs.again
  apply Runs.then
  apply Runs.then
  refine Runs.regionH 2 rfl H ?_; intro b18 σ H
  refine Ops.move (v := (.v (.int .i64 2))) rfl rfl ?_
  refine Ops.int (m := 2) (m' := 5) (r := .bool true) rfl rfl rfl rfl rfl ?_
  apply Ops.nil
  replace H := H.all
  refine Runs.yes rfl ?_
  apply Runs.skip
  apply Runs.then
  apply Runs.inBlock
  apply Runs.then
  refine Runs.drawnH 12 rfl (by kernel_rfl) H ?_; intro b19 σ H B19
  refine Ops.move (v := (.v (.int .i64 0))) rfl rfl ?_
  refine Ops.fieldAddrH (off := 0) (fo := 1) H 4 rfl rfl rfl rfl rfl (fun _ => .inl ⟨B19 4 _ rfl _ rfl, nofun⟩) rfl ?_
  refine Ops.arrAddrH (off := 1) (m := 9) (s := 1) (iv := 0) H 4 rfl rfl rfl rfl (by decide) (by decide) rfl rfl (fun _ => .inl ⟨B19 4 _ rfl _ rfl, nofun⟩) rfl ?_
  refine Ops.loadH (off := 1) (v := (.v (.int .u32 a.digits.d0))) H 4 rfl rfl rfl rfl rfl (fun _ => .inl ⟨B19 4 _ rfl _ rfl, nofun⟩) rfl ?_
  refine Ops.move (v := (.v (.int .i64 2))) rfl rfl ?_
  refine Ops.fieldAddrH (off := 0) (fo := 1) H 3 rfl rfl rfl rfl rfl (fun _ => .inl ⟨B19 3 _ rfl _ rfl, nofun⟩) rfl ?_
  refine Ops.arrAddrH (off := 1) (m := 9) (s := 1) (iv := 2) H 3 rfl rfl rfl rfl (by decide) (by decide) rfl rfl (fun _ => .inl ⟨B19 3 _ rfl _ rfl, nofun⟩) rfl ?_
  refine Ops.loadH (off := 3) (v := (.v (.int .u32 b.digits.d2))) H 3 rfl rfl rfl rfl rfl (fun _ => .inl ⟨B19 3 _ rfl _ rfl, nofun⟩) rfl ?_
  refine Ops.int (m := a.digits.d0) (m' := b.digits.d2) (r := .int .u32 (IntKind.u32.wrap (a.digits.d0 * b.digits.d2))) rfl rfl rfl rfl rfl ?_
  refine Ops.move (v := (.v (.int .u32 x4))) rfl rfl ?_
  refine Ops.int (m := (IntKind.u32.wrap (a.digits.d0 * b.digits.d2))) (m' := x4) (r := .int .u32 (IntKind.u32.wrap ((IntKind.u32.wrap (a.digits.d0 * b.digits.d2)) + x4))) rfl rfl rfl rfl rfl ?_
  obtain ⟨x5, q5, h⟩ := bind_some h
  refine Ops.assign (v := (.v (.int .u32 x5))) (by rw [← Option.some.inj q5]; rfl) rfl ?_
  apply Ops.nil
  replace H := H.all
  apply Runs.then
  refine Runs.regionH 7 rfl H ?_; intro b20 σ H
  refine Ops.move (v := (.v (.int .i64 0))) rfl rfl ?_
  refine Ops.move (v := (.v (.int .i64 2))) rfl rfl ?_
  refine Ops.int (m := 0) (m' := 2) (r := .int .i64 2) rfl rfl rfl rfl rfl ?_
  refine Ops.move (v := (.v (.int .u32 x5))) rfl rfl ?_
  refine Ops.rem (m := x5) (m' := 65536) rfl rfl (by decide) rfl ?_
  refine Ops.arrAddrH (off := 0) (m := 9) (s := 1) (iv := 2) H 0 rfl rfl rfl rfl (by decide) (by decide) rfl rfl nofun rfl ?_
  refine Ops.storeH (off := 2) (v := (.v (.int .u32 (x5.tmod 65536)))) (ys := [(.v (.int .u32 (x5.tmod 65536)))]) (cells' := [(.v (.int .u32 (x1.tmod 65536))), (.v (.int .u32 (x3.tmod 65536))), (.v (.int .u32 (x5.tmod 65536))), (.v (.int .u32 0)), (.v (.int .u32 0)), (.v (.int .u32 0)), (.v (.int .u32 0)), (.v (.int .u32 0)), (.v (.int .u32 0))]) H 0 rfl rfl rfl rfl rfl rfl rfl rfl rfl nofun ?_; intro σ H
  apply Ops.nil
  replace H := H.all
  refine Runs.regionH 3 rfl H ?_; intro b21 σ H
  refine Ops.move (v := (.v (.int .u32 x5))) rfl rfl ?_
  refine Ops.quo (m := x5) (m' := 65536) rfl rfl (by decide) rfl ?_
  obtain ⟨x6, q6, h⟩ := bind_some h
  refine Ops.assign (v := (.v (.int .u32 x6))) (by rw [← Option.some.inj q6]; rfl) rfl ?_
  apply Ops.nil
  replace H := H.all
  refine Runs.regionH 3 rfl H ?_; intro b22 σ H
  refine Ops.move (v := (.v (.int .i64 2))) rfl rfl ?_
  refine Ops.int (m := 2) (m' := 1) (r := .int .i64 3) rfl rfl rfl rfl rfl ?_
  refine Ops.assign (v := (.v (.int .i64 3))) rfl rfl ?_
  apply Ops.nil
  replace H := H.all
  apply Runs.again
  apply Runs.then
  apply Runs.then
  refine Runs.regionH 2 rfl H ?_; intro b23 σ H
  refine Ops.move (v := (.v (.int .i64 3))) rfl rfl ?_
  refine Ops.int (m := 3) (m' := 5) (r := .bool true) rfl rfl rfl rfl rfl ?_
  apply Ops.nil
  replace H := H.all
  refine Runs.yes rfl ?_
  apply Runs.skip
  apply Runs.then
  apply Runs.inBlock
  apply Runs.then
  refine Runs.drawnH 12 rfl (by kernel_rfl) H ?_; intro b24 σ H B24
  refine Ops.move (v := (.v (.int .i64 0))) rfl rfl ?_
  refine Ops.fieldAddrH (off := 0) (fo := 1) H 4 rfl rfl rfl rfl rfl (fun _ => .inl ⟨B24 4 _ rfl _ rfl, nofun⟩) rfl ?_
  refine Ops.arrAddrH (off := 1) (m := 9) (s := 1) (iv := 0) H 4 rfl rfl rfl rfl (by decide) (by decide) rfl rfl (fun _ => .inl ⟨B24 4 _ rfl _ rfl, nofun⟩) rfl ?_
  refine Ops.loadH (off := 1) (v := (.v (.int .u32 a.digits.d0))) H 4 rfl rfl rfl rfl rfl (fun _ => .inl ⟨B24 4 _ rfl _ rfl, nofun⟩) rfl ?_
  refine Ops.move (v := (.v (.int .i64 3))) rfl rfl ?_
  refine Ops.fieldAddrH (off := 0) (fo := 1) H 3 rfl rfl rfl rfl rfl (fun _ => .inl ⟨B24 3 _ rfl _ rfl, nofun⟩) rfl ?_
  refine Ops.arrAddrH (off := 1) (m := 9) (s := 1) (iv := 3) H 3 rfl rfl rfl rfl (by decide) (by decide) rfl rfl (fun _ => .inl ⟨B24 3 _ rfl _ rfl, nofun⟩) rfl ?_
  refine Ops.loadH (off := 4) (v := (.v (.int .u32 b.digits.d3))) H 3 rfl rfl rfl rfl rfl (fun _ => .inl ⟨B24 3 _ rfl _ rfl, nofun⟩) rfl ?_
  refine Ops.int (m := a.digits.d0) (m' := b.digits.d3) (r := .int .u32 (IntKind.u32.wrap (a.digits.d0 * b.digits.d3))) rfl rfl rfl rfl rfl ?_
  refine Ops.move (v := (.v (.int .u32 x6))) rfl rfl ?_
  refine Ops.int (m := (IntKind.u32.wrap (a.digits.d0 * b.digits.d3))) (m' := x6) (r := .int .u32 (IntKind.u32.wrap ((IntKind.u32.wrap (a.digits.d0 * b.digits.d3)) + x6))) rfl rfl rfl rfl rfl ?_
  obtain ⟨x7, q7, h⟩ := bind_some h
  refine Ops.assign (v := (.v (.int .u32 x7))) (by rw [← Option.some.inj q7]; rfl) rfl ?_
  apply Ops.nil
  replace H := H.all
  apply Runs.then
  refine Runs.regionH 7 rfl H ?_; intro b25 σ H
  refine Ops.move (v := (.v (.int .i64 0))) rfl rfl ?_
  refine Ops.move (v := (.v (.int .i64 3))) rfl rfl ?_
  refine Ops.int (m := 0) (m' := 3) (r := .int .i64 3) rfl rfl rfl rfl rfl ?_
  refine Ops.move (v := (.v (.int .u32 x7))) rfl rfl ?_
  refine Ops.rem (m := x7) (m' := 65536) rfl rfl (by decide) rfl ?_
  refine Ops.arrAddrH (off := 0) (m := 9) (s := 1) (iv := 3) H 0 rfl rfl rfl rfl (by decide) (by decide) rfl rfl nofun rfl ?_
  refine Ops.storeH (off := 3) (v := (.v (.int .u32 (x7.tmod 65536)))) (ys := [(.v (.int .u32 (x7.tmod 65536)))]) (cells' := [(.v (.int .u32 (x1.tmod 65536))), (.v (.int .u32 (x3.tmod 65536))), (.v (.int .u32 (x5.tmod 65536))), (.v (.int .u32 (x7.tmod 65536))), (.v (.int .u32 0)), (.v (.int .u32 0)), (.v (.int .u32 0)), (.v (.int .u32 0)), (.v (.int .u32 0))]) H 0 rfl rfl rfl rfl rfl rfl rfl rfl rfl nofun ?_; intro σ H
  apply Ops.nil
  replace H := H.all
  refine Runs.regionH 3 rfl H ?_; intro b26 σ H
  refine Ops.move (v := (.v (.int .u32 x7))) rfl rfl ?_
  refine Ops.quo (m := x7) (m' := 65536) rfl rfl (by decide) rfl ?_
  obtain ⟨x8, q8, h⟩ := bind_some h
  refine Ops.assign (v := (.v (.int .u32 x8))) (by rw [← Option.some.inj q8]; rfl) rfl ?_
  apply Ops.nil
  replace H := H.all
  refine Runs.regionH 3 rfl H ?_; intro b27 σ H
  refine Ops.move (v := (.v (.int .i64 3))) rfl rfl ?_
  refine Ops.int (m := 3) (m' := 1) (r := .int .i64 4) rfl rfl rfl rfl rfl ?_
  refine Ops.assign (v := (.v (.int .i64 4))) rfl rfl ?_
  apply Ops.nil
  replace H := H.all
  apply Runs.again
  apply Runs.then
  apply Runs.then
  refine Runs.regionH 2 rfl H ?_; intro b28 σ H
  refine Ops.move (v := (.v (.int .i64 4))) rfl rfl ?_
  refine Ops.int (m := 4) (m' := 5) (r := .bool true) rfl rfl rfl rfl rfl ?_
  apply Ops.nil
  replace H := H.all
  refine Runs.yes rfl ?_
  apply Runs.skip
  apply Runs.then
  apply Runs.inBlock
  apply Runs.then
  refine Runs.drawnH 12 rfl (by kernel_rfl) H ?_; intro b29 σ H B29
  refine Ops.move (v := (.v (.int .i64 0))) rfl rfl ?_
  refine Ops.fieldAddrH (off := 0) (fo := 1) H 4 rfl rfl rfl rfl rfl (fun _ => .inl ⟨B29 4 _ rfl _ rfl, nofun⟩) rfl ?_
  refine Ops.arrAddrH (off := 1) (m := 9) (s := 1) (iv := 0) H 4 rfl rfl rfl rfl (by decide) (by decide) rfl rfl (fun _ => .inl ⟨B29 4 _ rfl _ rfl, nofun⟩) rfl ?_
  refine Ops.loadH (off := 1) (v := (.v (.int .u32 a.digits.d0))) H 4 rfl rfl rfl rfl rfl (fun _ => .inl ⟨B29 4 _ rfl _ rfl, nofun⟩) rfl ?_
  refine Ops.move (v := (.v (.int .i64 4))) rfl rfl ?_
  refine Ops.fieldAddrH (off := 0) (fo := 1) H 3 rfl rfl rfl rfl rfl (fun _ => .inl ⟨B29 3 _ rfl _ rfl, nofun⟩) rfl ?_
  refine Ops.arrAddrH (off := 1) (m := 9) (s := 1) (iv := 4) H 3 rfl rfl rfl rfl (by decide) (by decide) rfl rfl (fun _ => .inl ⟨B29 3 _ rfl _ rfl, nofun⟩) rfl ?_
  refine Ops.loadH (off := 5) (v := (.v (.int .u32 b.digits.d4))) H 3 rfl rfl rfl rfl rfl (fun _ => .inl ⟨B29 3 _ rfl _ rfl, nofun⟩) rfl ?_
  refine Ops.int (m := a.digits.d0) (m' := b.digits.d4) (r := .int .u32 (IntKind.u32.wrap (a.digits.d0 * b.digits.d4))) rfl rfl rfl rfl rfl ?_
  refine Ops.move (v := (.v (.int .u32 x8))) rfl rfl ?_
  refine Ops.int (m := (IntKind.u32.wrap (a.digits.d0 * b.digits.d4))) (m' := x8) (r := .int .u32 (IntKind.u32.wrap ((IntKind.u32.wrap (a.digits.d0 * b.digits.d4)) + x8))) rfl rfl rfl rfl rfl ?_
  obtain ⟨x9, q9, h⟩ := bind_some h
  refine Ops.assign (v := (.v (.int .u32 x9))) (by rw [← Option.some.inj q9]; rfl) rfl ?_
  apply Ops.nil
  replace H := H.all
  apply Runs.then
  refine Runs.regionH 7 rfl H ?_; intro b30 σ H
  refine Ops.move (v := (.v (.int .i64 0))) rfl rfl ?_
  refine Ops.move (v := (.v (.int .i64 4))) rfl rfl ?_
  refine Ops.int (m := 0) (m' := 4) (r := .int .i64 4) rfl rfl rfl rfl rfl ?_
  refine Ops.move (v := (.v (.int .u32 x9))) rfl rfl ?_
  refine Ops.rem (m := x9) (m' := 65536) rfl rfl (by decide) rfl ?_
  refine Ops.arrAddrH (off := 0) (m := 9) (s := 1) (iv := 4) H 0 rfl rfl rfl rfl (by decide) (by decide) rfl rfl nofun rfl ?_
  refine Ops.storeH (off := 4) (v := (.v (.int .u32 (x9.tmod 65536)))) (ys := [(.v (.int .u32 (x9.tmod 65536)))]) (cells' := [(.v (.int .u32 (x1.tmod 65536))), (.v (.int .u32 (x3.tmod 65536))), (.v (.int .u32 (x5.tmod 65536))), (.v (.int .u32 (x7.tmod 65536))), (.v (.int .u32 (x9.tmod 65536))), (.v (.int .u32 0)), (.v (.int .u32 0)), (.v (.int .u32 0)), (.v (.int .u32 0))]) H 0 rfl rfl rfl rfl rfl rfl rfl rfl rfl nofun ?_; intro σ H
  apply Ops.nil
  replace H := H.all
  refine Runs.regionH 3 rfl H ?_; intro b31 σ H
  refine Ops.move (v := (.v (.int .u32 x9))) rfl rfl ?_
  refine Ops.quo (m := x9) (m' := 65536) rfl rfl (by decide) rfl ?_
  obtain ⟨x10, q10, h⟩ := bind_some h
  refine Ops.assign (v := (.v (.int .u32 x10))) (by rw [← Option.some.inj q10]; rfl) rfl ?_
  apply Ops.nil
  replace H := H.all
  refine Runs.regionH 3 rfl H ?_; intro b32 σ H
  refine Ops.move (v := (.v (.int .i64 4))) rfl rfl ?_
  refine Ops.int (m := 4) (m' := 1) (r := .int .i64 5) rfl rfl rfl rfl rfl ?_
  refine Ops.assign (v := (.v (.int .i64 5))) rfl rfl ?_
  apply Ops.nil
  replace H := H.all
  apply Runs.again
  apply Runs.then
  apply Runs.then
  refine Runs.regionH 2 rfl H ?_; intro b33 σ H
  refine Ops.move (v := (.v (.int .i64 5))) rfl rfl ?_
  refine Ops.int (m := 5) (m' := 5) (r := .bool false) rfl rfl rfl rfl rfl ?_
  apply Ops.nil
  replace H := H.all
  refine Runs.no rfl ?_
  apply Runs.exit
  refine Runs.regionH 6 rfl H ?_; intro b34 σ H
  refine Ops.fieldAddrH (off := 0) (fo := 1) H 1 rfl rfl rfl rfl rfl nofun rfl ?_
  refine Ops.loadHA (off := 1) (cs := [(.v (.int .u32 0)), (.v (.int .u32 0)), (.v (.int .u32 0)), (.v (.int .u32 0)), (.v (.int .u32 0)), (.v (.int .u32 0)), (.v (.int .u32 0)), (.v (.int .u32 0)), (.v (.int .u32 0))]) H 1 rfl rfl rfl rfl rfl rfl rfl nofun rfl ?_
  refine Ops.loadHA (off := 0) (cs := [(.v (.int .u32 (x1.tmod 65536))), (.v (.int .u32 (x3.tmod 65536))), (.v (.int .u32 (x5.tmod 65536))), (.v (.int .u32 (x7.tmod 65536))), (.v (.int .u32 (x9.tmod 65536))), (.v (.int .u32 0)), (.v (.int .u32 0)), (.v (.int .u32 0)), (.v (.int .u32 0))]) H 0 rfl rfl rfl rfl rfl rfl rfl nofun rfl ?_
  obtain ⟨x11, q11, h⟩ := bind_some h
  refine Ops.call (ys := [(.agg [(.v (.int .u32 0)), (.v (.int .u32 0)), (.v (.int .u32 0)), (.v (.int .u32 0)), (.v (.int .u32 0)), (.v (.int .u32 0)), (.v (.int .u32 0)), (.v (.int .u32 0)), (.v (.int .u32 0))]), (.agg [(.v (.int .u32 (x1.tmod 65536))), (.v (.int .u32 (x3.tmod 65536))), (.v (.int .u32 (x5.tmod 65536))), (.v (.int .u32 (x7.tmod 65536))), (.v (.int .u32 (x9.tmod 65536))), (.v (.int .u32 0)), (.v (.int .u32 0)), (.v (.int .u32 0)), (.v (.int .u32 0))])]) (r := (.agg [(.v (.int .u32 x11.d0)), (.v (.int .u32 x11.d1)), (.v (.int .u32 x11.d2)), (.v (.int .u32 x11.d3)), (.v (.int .u32 x11.d4)), (.v (.int .u32 x11.d5)), (.v (.int .u32 x11.d6)), (.v (.int .u32 x11.d7)), (.v (.int .u32 x11.d8))])) rfl (epactref01_more_fn q11) rfl ?_
  refine Ops.fieldAddrH (off := 0) (fo := 1) H 1 rfl rfl rfl rfl rfl nofun rfl ?_
  refine Ops.storeH (off := 1) (v := (.agg [(.v (.int .u32 x11.d0)), (.v (.int .u32 x11.d1)), (.v (.int .u32 x11.d2)), (.v (.int .u32 x11.d3)), (.v (.int .u32 x11.d4)), (.v (.int .u32 x11.d5)), (.v (.int .u32 x11.d6)), (.v (.int .u32 x11.d7)), (.v (.int .u32 x11.d8))])) (ys := [(.v (.int .u32 x11.d0)), (.v (.int .u32 x11.d1)), (.v (.int .u32 x11.d2)), (.v (.int .u32 x11.d3)), (.v (.int .u32 x11.d4)), (.v (.int .u32 x11.d5)), (.v (.int .u32 x11.d6)), (.v (.int .u32 x11.d7)), (.v (.int .u32 x11.d8))]) (cells' := [(.v (.bool (a.minus != b.minus))), (.v (.int .u32 x11.d0)), (.v (.int .u32 x11.d1)), (.v (.int .u32 x11.d2)), (.v (.int .u32 x11.d3)), (.v (.int .u32 x11.d4)), (.v (.int .u32 x11.d5)), (.v (.int .u32 x11.d6)), (.v (.int .u32 x11.d7)), (.v (.int .u32 x11.d8))]) H 1 rfl rfl rfl rfl rfl rfl rfl rfl rfl nofun ?_; intro σ H
  apply Ops.nil
  replace H := H.all
  refine Runs.regionH 3 rfl H ?_; intro b35 σ H
  refine Ops.move (v := (.v (.int .i64 0))) rfl rfl ?_
  refine Ops.int (m := 0) (m' := 1) (r := .int .i64 1) rfl rfl rfl rfl rfl ?_
  refine Ops.assign (v := (.v (.int .i64 1))) rfl rfl ?_
  apply Ops.nil
  replace H := H.all
  apply Runs.again
  apply Runs.then
  apply Runs.then
  refine Runs.regionH 2 rfl H ?_; intro b36 σ H
  refine Ops.move (v := (.v (.int .i64 1))) rfl rfl ?_
  refine Ops.int (m := 1) (m' := 4) (r := .bool true) rfl rfl rfl rfl rfl ?_
  apply Ops.nil
  replace H := H.all
  refine Runs.yes rfl ?_
  apply Runs.skip
  apply Runs.then
  apply Runs.inBlock
  apply Runs.then
  refine Runs.regionH 1 rfl H ?_; intro b37 σ H
  refine Ops.allocH (cs := [(.v (.int .u32 0)), (.v (.int .u32 0)), (.v (.int .u32 0)), (.v (.int .u32 0)), (.v (.int .u32 0)), (.v (.int .u32 0)), (.v (.int .u32 0)), (.v (.int .u32 0)), (.v (.int .u32 0))]) H (by omega) (by omega) rfl rfl ?_; intro σ H
  apply Ops.nil
  replace H := H.all
  apply Runs.then
  refine Runs.regionH 1 rfl H ?_; intro b38 σ H
  refine Ops.assign (v := (.v (.int .u32 0))) rfl rfl ?_
  apply Ops.nil
  replace H := H.all
  apply Runs.then
  apply Runs.then
  refine Runs.regionH 1 rfl H ?_; intro b39 σ H
  refine Ops.assign (v := (.v (.int .i64 0))) rfl rfl ?_
  apply Ops.nil
  replace H := H.all
  apply Runs.inBlock
  apply Runs.again
  apply Runs.then
  apply Runs.then
  refine Runs.regionH 2 rfl H ?_; intro b40 σ H
  refine Ops.move (v := (.v (.int .i64 0))) rfl rfl ?_
  refine Ops.int (m := 0) (m' := 5) (r := .bool true) rfl rfl rfl rfl rfl ?_
  apply Ops.nil
  replace H := H.all
  refine Runs.yes rfl ?_
  apply Runs.skip
  apply Runs.then
  apply Runs.inBlock
  apply Runs.then
  refine Runs.drawnH 12 rfl (by kernel_rfl) H ?_; intro b41 σ H B41
  refine Ops.move (v := (.v (.int .i64 1))) rfl rfl ?_
  refine Ops.fieldAddrH (off := 0) (fo := 1) H 5 rfl rfl rfl rfl rfl (fun _ => .inl ⟨B41 5 _ rfl _ rfl, nofun⟩) rfl ?_
  refine Ops.arrAddrH (off := 1) (m := 9) (s := 1) (iv := 1) H 5 rfl rfl rfl rfl (by decide) (by decide) rfl rfl (fun _ => .inl ⟨B41 5 _ rfl _ rfl, nofun⟩) rfl ?_
  refine Ops.loadH (off := 2) (v := (.v (.int .u32 a.digits.d1))) H 5 rfl rfl rfl rfl rfl (fun _ => .inl ⟨B41 5 _ rfl _ rfl, nofun⟩) rfl ?_
  refine Ops.move (v := (.v (.int .i64 0))) rfl rfl ?_
  refine Ops.fieldAddrH (off := 0) (fo := 1) H 4 rfl rfl rfl rfl rfl (fun _ => .inl ⟨B41 4 _ rfl _ rfl, nofun⟩) rfl ?_
  refine Ops.arrAddrH (off := 1) (m := 9) (s := 1) (iv := 0) H 4 rfl rfl rfl rfl (by decide) (by decide) rfl rfl (fun _ => .inl ⟨B41 4 _ rfl _ rfl, nofun⟩) rfl ?_
  refine Ops.loadH (off := 1) (v := (.v (.int .u32 b.digits.d0))) H 4 rfl rfl rfl rfl rfl (fun _ => .inl ⟨B41 4 _ rfl _ rfl, nofun⟩) rfl ?_
  refine Ops.int (m := a.digits.d1) (m' := b.digits.d0) (r := .int .u32 (IntKind.u32.wrap (a.digits.d1 * b.digits.d0))) rfl rfl rfl rfl rfl ?_
  refine Ops.move (v := (.v (.int .u32 0))) rfl rfl ?_
  refine Ops.int (m := (IntKind.u32.wrap (a.digits.d1 * b.digits.d0))) (m' := 0) (r := .int .u32 (IntKind.u32.wrap ((IntKind.u32.wrap (a.digits.d1 * b.digits.d0)) + 0))) rfl rfl rfl rfl rfl ?_
  obtain ⟨x12, q12, h⟩ := bind_some h
  refine Ops.assign (v := (.v (.int .u32 x12))) (by rw [← Option.some.inj q12]; rfl) rfl ?_
  apply Ops.nil
  replace H := H.all
  apply Runs.then
  refine Runs.regionH 7 rfl H ?_; intro b42 σ H
  refine Ops.move (v := (.v (.int .i64 1))) rfl rfl ?_
  refine Ops.move (v := (.v (.int .i64 0))) rfl rfl ?_
  refine Ops.int (m := 1) (m' := 0) (r := .int .i64 1) rfl rfl rfl rfl rfl ?_
  refine Ops.move (v := (.v (.int .u32 x12))) rfl rfl ?_
  refine Ops.rem (m := x12) (m' := 65536) rfl rfl (by decide) rfl ?_
  refine Ops.arrAddrH (off := 0) (m := 9) (s := 1) (iv := 1) H 0 rfl rfl rfl rfl (by decide) (by decide) rfl rfl nofun rfl ?_
  refine Ops.storeH (off := 1) (v := (.v (.int .u32 (x12.tmod 65536)))) (ys := [(.v (.int .u32 (x12.tmod 65536)))]) (cells' := [(.v (.int .u32 0)), (.v (.int .u32 (x12.tmod 65536))), (.v (.int .u32 0)), (.v (.int .u32 0)), (.v (.int .u32 0)), (.v (.int .u32 0)), (.v (.int .u32 0)), (.v (.int .u32 0)), (.v (.int .u32 0))]) H 0 rfl rfl rfl rfl rfl rfl rfl rfl rfl nofun ?_; intro σ H
  apply Ops.nil
  replace H := H.all
  refine Runs.regionH 3 rfl H ?_; intro b43 σ H
  refine Ops.move (v := (.v (.int .u32 x12))) rfl rfl ?_
  refine Ops.quo (m := x12) (m' := 65536) rfl rfl (by decide) rfl ?_
  obtain ⟨x13, q13, h⟩ := bind_some h
  refine Ops.assign (v := (.v (.int .u32 x13))) (by rw [← Option.some.inj q13]; rfl) rfl ?_
  apply Ops.nil
  replace H := H.all
  refine Runs.regionH 3 rfl H ?_; intro b44 σ H
  refine Ops.move (v := (.v (.int .i64 0))) rfl rfl ?_
  refine Ops.int (m := 0) (m' := 1) (r := .int .i64 1) rfl rfl rfl rfl rfl ?_
  refine Ops.assign (v := (.v (.int .i64 1))) rfl rfl ?_
  apply Ops.nil
  replace H := H.all
  apply Runs.again
  apply Runs.then
  apply Runs.then
  refine Runs.regionH 2 rfl H ?_; intro b45 σ H
  refine Ops.move (v := (.v (.int .i64 1))) rfl rfl ?_
  refine Ops.int (m := 1) (m' := 5) (r := .bool true) rfl rfl rfl rfl rfl ?_
  apply Ops.nil
  replace H := H.all
  refine Runs.yes rfl ?_
  apply Runs.skip
  apply Runs.then
  apply Runs.inBlock
  apply Runs.then
  refine Runs.drawnH 12 rfl (by kernel_rfl) H ?_; intro b46 σ H B46
  refine Ops.move (v := (.v (.int .i64 1))) rfl rfl ?_
  refine Ops.fieldAddrH (off := 0) (fo := 1) H 5 rfl rfl rfl rfl rfl (fun _ => .inl ⟨B46 5 _ rfl _ rfl, nofun⟩) rfl ?_
  refine Ops.arrAddrH (off := 1) (m := 9) (s := 1) (iv := 1) H 5 rfl rfl rfl rfl (by decide) (by decide) rfl rfl (fun _ => .inl ⟨B46 5 _ rfl _ rfl, nofun⟩) rfl ?_
  refine Ops.loadH (off := 2) (v := (.v (.int .u32 a.digits.d1))) H 5 rfl rfl rfl rfl rfl (fun _ => .inl ⟨B46 5 _ rfl _ rfl, nofun⟩) rfl ?_
  refine Ops.move (v := (.v (.int .i64 1))) rfl rfl ?_
  refine Ops.fieldAddrH (off := 0) (fo := 1) H 4 rfl rfl rfl rfl rfl (fun _ => .inl ⟨B46 4 _ rfl _ rfl, nofun⟩) rfl ?_
  refine Ops.arrAddrH (off := 1) (m := 9) (s := 1) (iv := 1) H 4 rfl rfl rfl rfl (by decide) (by decide) rfl rfl (fun _ => .inl ⟨B46 4 _ rfl _ rfl, nofun⟩) rfl ?_
  refine Ops.loadH (off := 2) (v := (.v (.int .u32 b.digits.d1))) H 4 rfl rfl rfl rfl rfl (fun _ => .inl ⟨B46 4 _ rfl _ rfl, nofun⟩) rfl ?_
  refine Ops.int (m := a.digits.d1) (m' := b.digits.d1) (r := .int .u32 (IntKind.u32.wrap (a.digits.d1 * b.digits.d1))) rfl rfl rfl rfl rfl ?_
  refine Ops.move (v := (.v (.int .u32 x13))) rfl rfl ?_
  refine Ops.int (m := (IntKind.u32.wrap (a.digits.d1 * b.digits.d1))) (m' := x13) (r := .int .u32 (IntKind.u32.wrap ((IntKind.u32.wrap (a.digits.d1 * b.digits.d1)) + x13))) rfl rfl rfl rfl rfl ?_
  obtain ⟨x14, q14, h⟩ := bind_some h
  refine Ops.assign (v := (.v (.int .u32 x14))) (by rw [← Option.some.inj q14]; rfl) rfl ?_
  apply Ops.nil
  replace H := H.all
  apply Runs.then
  refine Runs.regionH 7 rfl H ?_; intro b47 σ H
  refine Ops.move (v := (.v (.int .i64 1))) rfl rfl ?_
  refine Ops.move (v := (.v (.int .i64 1))) rfl rfl ?_
  refine Ops.int (m := 1) (m' := 1) (r := .int .i64 2) rfl rfl rfl rfl rfl ?_
  refine Ops.move (v := (.v (.int .u32 x14))) rfl rfl ?_
  refine Ops.rem (m := x14) (m' := 65536) rfl rfl (by decide) rfl ?_
  refine Ops.arrAddrH (off := 0) (m := 9) (s := 1) (iv := 2) H 0 rfl rfl rfl rfl (by decide) (by decide) rfl rfl nofun rfl ?_
  refine Ops.storeH (off := 2) (v := (.v (.int .u32 (x14.tmod 65536)))) (ys := [(.v (.int .u32 (x14.tmod 65536)))]) (cells' := [(.v (.int .u32 0)), (.v (.int .u32 (x12.tmod 65536))), (.v (.int .u32 (x14.tmod 65536))), (.v (.int .u32 0)), (.v (.int .u32 0)), (.v (.int .u32 0)), (.v (.int .u32 0)), (.v (.int .u32 0)), (.v (.int .u32 0))]) H 0 rfl rfl rfl rfl rfl rfl rfl rfl rfl nofun ?_; intro σ H
  apply Ops.nil
  replace H := H.all
  refine Runs.regionH 3 rfl H ?_; intro b48 σ H
  refine Ops.move (v := (.v (.int .u32 x14))) rfl rfl ?_
  refine Ops.quo (m := x14) (m' := 65536) rfl rfl (by decide) rfl ?_
  obtain ⟨x15, q15, h⟩ := bind_some h
  refine Ops.assign (v := (.v (.int .u32 x15))) (by rw [← Option.some.inj q15]; rfl) rfl ?_
  apply Ops.nil
  replace H := H.all
  refine Runs.regionH 3 rfl H ?_; intro b49 σ H
  refine Ops.move (v := (.v (.int .i64 1))) rfl rfl ?_
  refine Ops.int (m := 1) (m' := 1) (r := .int .i64 2) rfl rfl rfl rfl rfl ?_
  refine Ops.assign (v := (.v (.int .i64 2))) rfl rfl ?_
  apply Ops.nil
  replace H := H.all
  apply Runs.again
  apply Runs.then
  apply Runs.then
  refine Runs.regionH 2 rfl H ?_; intro b50 σ H
  refine Ops.move (v := (.v (.int .i64 2))) rfl rfl ?_
  refine Ops.int (m := 2) (m' := 5) (r := .bool true) rfl rfl rfl rfl rfl ?_
  apply Ops.nil
  replace H := H.all
  refine Runs.yes rfl ?_
  apply Runs.skip
  apply Runs.then
  apply Runs.inBlock
  apply Runs.then
  refine Runs.drawnH 12 rfl (by kernel_rfl) H ?_; intro b51 σ H B51
  refine Ops.move (v := (.v (.int .i64 1))) rfl rfl ?_
  refine Ops.fieldAddrH (off := 0) (fo := 1) H 5 rfl rfl rfl rfl rfl (fun _ => .inl ⟨B51 5 _ rfl _ rfl, nofun⟩) rfl ?_
  refine Ops.arrAddrH (off := 1) (m := 9) (s := 1) (iv := 1) H 5 rfl rfl rfl rfl (by decide) (by decide) rfl rfl (fun _ => .inl ⟨B51 5 _ rfl _ rfl, nofun⟩) rfl ?_
  refine Ops.loadH (off := 2) (v := (.v (.int .u32 a.digits.d1))) H 5 rfl rfl rfl rfl rfl (fun _ => .inl ⟨B51 5 _ rfl _ rfl, nofun⟩) rfl ?_
  refine Ops.move (v := (.v (.int .i64 2))) rfl rfl ?_
  refine Ops.fieldAddrH (off := 0) (fo := 1) H 4 rfl rfl rfl rfl rfl (fun _ => .inl ⟨B51 4 _ rfl _ rfl, nofun⟩) rfl ?_
  refine Ops.arrAddrH (off := 1) (m := 9) (s := 1) (iv := 2) H 4 rfl rfl rfl rfl (by decide) (by decide) rfl rfl (fun _ => .inl ⟨B51 4 _ rfl _ rfl, nofun⟩) rfl ?_
  refine Ops.loadH (off := 3) (v := (.v (.int .u32 b.digits.d2))) H 4 rfl rfl rfl rfl rfl (fun _ => .inl ⟨B51 4 _ rfl _ rfl, nofun⟩) rfl ?_
  refine Ops.int (m := a.digits.d1) (m' := b.digits.d2) (r := .int .u32 (IntKind.u32.wrap (a.digits.d1 * b.digits.d2))) rfl rfl rfl rfl rfl ?_
  refine Ops.move (v := (.v (.int .u32 x15))) rfl rfl ?_
  refine Ops.int (m := (IntKind.u32.wrap (a.digits.d1 * b.digits.d2))) (m' := x15) (r := .int .u32 (IntKind.u32.wrap ((IntKind.u32.wrap (a.digits.d1 * b.digits.d2)) + x15))) rfl rfl rfl rfl rfl ?_
  obtain ⟨x16, q16, h⟩ := bind_some h
  refine Ops.assign (v := (.v (.int .u32 x16))) (by rw [← Option.some.inj q16]; rfl) rfl ?_
  apply Ops.nil
  replace H := H.all
  apply Runs.then
  refine Runs.regionH 7 rfl H ?_; intro b52 σ H
  refine Ops.move (v := (.v (.int .i64 1))) rfl rfl ?_
  refine Ops.move (v := (.v (.int .i64 2))) rfl rfl ?_
  refine Ops.int (m := 1) (m' := 2) (r := .int .i64 3) rfl rfl rfl rfl rfl ?_
  refine Ops.move (v := (.v (.int .u32 x16))) rfl rfl ?_
  refine Ops.rem (m := x16) (m' := 65536) rfl rfl (by decide) rfl ?_
  refine Ops.arrAddrH (off := 0) (m := 9) (s := 1) (iv := 3) H 0 rfl rfl rfl rfl (by decide) (by decide) rfl rfl nofun rfl ?_
  refine Ops.storeH (off := 3) (v := (.v (.int .u32 (x16.tmod 65536)))) (ys := [(.v (.int .u32 (x16.tmod 65536)))]) (cells' := [(.v (.int .u32 0)), (.v (.int .u32 (x12.tmod 65536))), (.v (.int .u32 (x14.tmod 65536))), (.v (.int .u32 (x16.tmod 65536))), (.v (.int .u32 0)), (.v (.int .u32 0)), (.v (.int .u32 0)), (.v (.int .u32 0)), (.v (.int .u32 0))]) H 0 rfl rfl rfl rfl rfl rfl rfl rfl rfl nofun ?_; intro σ H
  apply Ops.nil
  replace H := H.all
  refine Runs.regionH 3 rfl H ?_; intro b53 σ H
  refine Ops.move (v := (.v (.int .u32 x16))) rfl rfl ?_
  refine Ops.quo (m := x16) (m' := 65536) rfl rfl (by decide) rfl ?_
  obtain ⟨x17, q17, h⟩ := bind_some h
  refine Ops.assign (v := (.v (.int .u32 x17))) (by rw [← Option.some.inj q17]; rfl) rfl ?_
  apply Ops.nil
  replace H := H.all
  refine Runs.regionH 3 rfl H ?_; intro b54 σ H
  refine Ops.move (v := (.v (.int .i64 2))) rfl rfl ?_
  refine Ops.int (m := 2) (m' := 1) (r := .int .i64 3) rfl rfl rfl rfl rfl ?_
  refine Ops.assign (v := (.v (.int .i64 3))) rfl rfl ?_
  apply Ops.nil
  replace H := H.all
  apply Runs.again
  apply Runs.then
  apply Runs.then
  refine Runs.regionH 2 rfl H ?_; intro b55 σ H
  refine Ops.move (v := (.v (.int .i64 3))) rfl rfl ?_
  refine Ops.int (m := 3) (m' := 5) (r := .bool true) rfl rfl rfl rfl rfl ?_
  apply Ops.nil
  replace H := H.all
  refine Runs.yes rfl ?_
  apply Runs.skip
  apply Runs.then
  apply Runs.inBlock
  apply Runs.then
  refine Runs.drawnH 12 rfl (by kernel_rfl) H ?_; intro b56 σ H B56
  refine Ops.move (v := (.v (.int .i64 1))) rfl rfl ?_
  refine Ops.fieldAddrH (off := 0) (fo := 1) H 5 rfl rfl rfl rfl rfl (fun _ => .inl ⟨B56 5 _ rfl _ rfl, nofun⟩) rfl ?_
  refine Ops.arrAddrH (off := 1) (m := 9) (s := 1) (iv := 1) H 5 rfl rfl rfl rfl (by decide) (by decide) rfl rfl (fun _ => .inl ⟨B56 5 _ rfl _ rfl, nofun⟩) rfl ?_
  refine Ops.loadH (off := 2) (v := (.v (.int .u32 a.digits.d1))) H 5 rfl rfl rfl rfl rfl (fun _ => .inl ⟨B56 5 _ rfl _ rfl, nofun⟩) rfl ?_
  refine Ops.move (v := (.v (.int .i64 3))) rfl rfl ?_
  refine Ops.fieldAddrH (off := 0) (fo := 1) H 4 rfl rfl rfl rfl rfl (fun _ => .inl ⟨B56 4 _ rfl _ rfl, nofun⟩) rfl ?_
  refine Ops.arrAddrH (off := 1) (m := 9) (s := 1) (iv := 3) H 4 rfl rfl rfl rfl (by decide) (by decide) rfl rfl (fun _ => .inl ⟨B56 4 _ rfl _ rfl, nofun⟩) rfl ?_
  refine Ops.loadH (off := 4) (v := (.v (.int .u32 b.digits.d3))) H 4 rfl rfl rfl rfl rfl (fun _ => .inl ⟨B56 4 _ rfl _ rfl, nofun⟩) rfl ?_
  refine Ops.int (m := a.digits.d1) (m' := b.digits.d3) (r := .int .u32 (IntKind.u32.wrap (a.digits.d1 * b.digits.d3))) rfl rfl rfl rfl rfl ?_
  refine Ops.move (v := (.v (.int .u32 x17))) rfl rfl ?_
  refine Ops.int (m := (IntKind.u32.wrap (a.digits.d1 * b.digits.d3))) (m' := x17) (r := .int .u32 (IntKind.u32.wrap ((IntKind.u32.wrap (a.digits.d1 * b.digits.d3)) + x17))) rfl rfl rfl rfl rfl ?_
  obtain ⟨x18, q18, h⟩ := bind_some h
  refine Ops.assign (v := (.v (.int .u32 x18))) (by rw [← Option.some.inj q18]; rfl) rfl ?_
  apply Ops.nil
  replace H := H.all
  apply Runs.then
  refine Runs.regionH 7 rfl H ?_; intro b57 σ H
  refine Ops.move (v := (.v (.int .i64 1))) rfl rfl ?_
  refine Ops.move (v := (.v (.int .i64 3))) rfl rfl ?_
  refine Ops.int (m := 1) (m' := 3) (r := .int .i64 4) rfl rfl rfl rfl rfl ?_
  refine Ops.move (v := (.v (.int .u32 x18))) rfl rfl ?_
  refine Ops.rem (m := x18) (m' := 65536) rfl rfl (by decide) rfl ?_
  refine Ops.arrAddrH (off := 0) (m := 9) (s := 1) (iv := 4) H 0 rfl rfl rfl rfl (by decide) (by decide) rfl rfl nofun rfl ?_
  refine Ops.storeH (off := 4) (v := (.v (.int .u32 (x18.tmod 65536)))) (ys := [(.v (.int .u32 (x18.tmod 65536)))]) (cells' := [(.v (.int .u32 0)), (.v (.int .u32 (x12.tmod 65536))), (.v (.int .u32 (x14.tmod 65536))), (.v (.int .u32 (x16.tmod 65536))), (.v (.int .u32 (x18.tmod 65536))), (.v (.int .u32 0)), (.v (.int .u32 0)), (.v (.int .u32 0)), (.v (.int .u32 0))]) H 0 rfl rfl rfl rfl rfl rfl rfl rfl rfl nofun ?_; intro σ H
  apply Ops.nil
  replace H := H.all
  refine Runs.regionH 3 rfl H ?_; intro b58 σ H
  refine Ops.move (v := (.v (.int .u32 x18))) rfl rfl ?_
  refine Ops.quo (m := x18) (m' := 65536) rfl rfl (by decide) rfl ?_
  obtain ⟨x19, q19, h⟩ := bind_some h
  refine Ops.assign (v := (.v (.int .u32 x19))) (by rw [← Option.some.inj q19]; rfl) rfl ?_
  apply Ops.nil
  replace H := H.all
  refine Runs.regionH 3 rfl H ?_; intro b59 σ H
  refine Ops.move (v := (.v (.int .i64 3))) rfl rfl ?_
  refine Ops.int (m := 3) (m' := 1) (r := .int .i64 4) rfl rfl rfl rfl rfl ?_
  refine Ops.assign (v := (.v (.int .i64 4))) rfl rfl ?_
  apply Ops.nil
  replace H := H.all
  apply Runs.again
  apply Runs.then
  apply Runs.then
  refine Runs.regionH 2 rfl H ?_; intro b60 σ H
  refine Ops.move (v := (.v (.int .i64 4))) rfl rfl ?_
  refine Ops.int (m := 4) (m' := 5) (r := .bool true) rfl rfl rfl rfl rfl ?_
  apply Ops.nil
  replace H := H.all
  refine Runs.yes rfl ?_
  apply Runs.skip
  apply Runs.then
  apply Runs.inBlock
  apply Runs.then
  refine Runs.drawnH 12 rfl (by kernel_rfl) H ?_; intro b61 σ H B61
  refine Ops.move (v := (.v (.int .i64 1))) rfl rfl ?_
  refine Ops.fieldAddrH (off := 0) (fo := 1) H 5 rfl rfl rfl rfl rfl (fun _ => .inl ⟨B61 5 _ rfl _ rfl, nofun⟩) rfl ?_
  refine Ops.arrAddrH (off := 1) (m := 9) (s := 1) (iv := 1) H 5 rfl rfl rfl rfl (by decide) (by decide) rfl rfl (fun _ => .inl ⟨B61 5 _ rfl _ rfl, nofun⟩) rfl ?_
  refine Ops.loadH (off := 2) (v := (.v (.int .u32 a.digits.d1))) H 5 rfl rfl rfl rfl rfl (fun _ => .inl ⟨B61 5 _ rfl _ rfl, nofun⟩) rfl ?_
  refine Ops.move (v := (.v (.int .i64 4))) rfl rfl ?_
  refine Ops.fieldAddrH (off := 0) (fo := 1) H 4 rfl rfl rfl rfl rfl (fun _ => .inl ⟨B61 4 _ rfl _ rfl, nofun⟩) rfl ?_
  refine Ops.arrAddrH (off := 1) (m := 9) (s := 1) (iv := 4) H 4 rfl rfl rfl rfl (by decide) (by decide) rfl rfl (fun _ => .inl ⟨B61 4 _ rfl _ rfl, nofun⟩) rfl ?_
  refine Ops.loadH (off := 5) (v := (.v (.int .u32 b.digits.d4))) H 4 rfl rfl rfl rfl rfl (fun _ => .inl ⟨B61 4 _ rfl _ rfl, nofun⟩) rfl ?_
  refine Ops.int (m := a.digits.d1) (m' := b.digits.d4) (r := .int .u32 (IntKind.u32.wrap (a.digits.d1 * b.digits.d4))) rfl rfl rfl rfl rfl ?_
  refine Ops.move (v := (.v (.int .u32 x19))) rfl rfl ?_
  refine Ops.int (m := (IntKind.u32.wrap (a.digits.d1 * b.digits.d4))) (m' := x19) (r := .int .u32 (IntKind.u32.wrap ((IntKind.u32.wrap (a.digits.d1 * b.digits.d4)) + x19))) rfl rfl rfl rfl rfl ?_
  obtain ⟨x20, q20, h⟩ := bind_some h
  refine Ops.assign (v := (.v (.int .u32 x20))) (by rw [← Option.some.inj q20]; rfl) rfl ?_
  apply Ops.nil
  replace H := H.all
  apply Runs.then
  refine Runs.regionH 7 rfl H ?_; intro b62 σ H
  refine Ops.move (v := (.v (.int .i64 1))) rfl rfl ?_
  refine Ops.move (v := (.v (.int .i64 4))) rfl rfl ?_
  refine Ops.int (m := 1) (m' := 4) (r := .int .i64 5) rfl rfl rfl rfl rfl ?_
  refine Ops.move (v := (.v (.int .u32 x20))) rfl rfl ?_
  refine Ops.rem (m := x20) (m' := 65536) rfl rfl (by decide) rfl ?_
  refine Ops.arrAddrH (off := 0) (m := 9) (s := 1) (iv := 5) H 0 rfl rfl rfl rfl (by decide) (by decide) rfl rfl nofun rfl ?_
  refine Ops.storeH (off := 5) (v := (.v (.int .u32 (x20.tmod 65536)))) (ys := [(.v (.int .u32 (x20.tmod 65536)))]) (cells' := [(.v (.int .u32 0)), (.v (.int .u32 (x12.tmod 65536))), (.v (.int .u32 (x14.tmod 65536))), (.v (.int .u32 (x16.tmod 65536))), (.v (.int .u32 (x18.tmod 65536))), (.v (.int .u32 (x20.tmod 65536))), (.v (.int .u32 0)), (.v (.int .u32 0)), (.v (.int .u32 0))]) H 0 rfl rfl rfl rfl rfl rfl rfl rfl rfl nofun ?_; intro σ H
  apply Ops.nil
  replace H := H.all
  refine Runs.regionH 3 rfl H ?_; intro b63 σ H
  refine Ops.move (v := (.v (.int .u32 x20))) rfl rfl ?_
  refine Ops.quo (m := x20) (m' := 65536) rfl rfl (by decide) rfl ?_
  obtain ⟨x21, q21, h⟩ := bind_some h
  refine Ops.assign (v := (.v (.int .u32 x21))) (by rw [← Option.some.inj q21]; rfl) rfl ?_
  apply Ops.nil
  replace H := H.all
  refine Runs.regionH 3 rfl H ?_; intro b64 σ H
  refine Ops.move (v := (.v (.int .i64 4))) rfl rfl ?_
  refine Ops.int (m := 4) (m' := 1) (r := .int .i64 5) rfl rfl rfl rfl rfl ?_
  refine Ops.assign (v := (.v (.int .i64 5))) rfl rfl ?_
  apply Ops.nil
  replace H := H.all
  apply Runs.again
  apply Runs.then
  apply Runs.then
  refine Runs.regionH 2 rfl H ?_; intro b65 σ H
  refine Ops.move (v := (.v (.int .i64 5))) rfl rfl ?_
  refine Ops.int (m := 5) (m' := 5) (r := .bool false) rfl rfl rfl rfl rfl ?_
  apply Ops.nil
  replace H := H.all
  refine Runs.no rfl ?_
  apply Runs.exit
  refine Runs.regionH 6 rfl H ?_; intro b66 σ H
  refine Ops.fieldAddrH (off := 0) (fo := 1) H 2 rfl rfl rfl rfl rfl nofun rfl ?_
  refine Ops.loadHA (off := 1) (cs := [(.v (.int .u32 x11.d0)), (.v (.int .u32 x11.d1)), (.v (.int .u32 x11.d2)), (.v (.int .u32 x11.d3)), (.v (.int .u32 x11.d4)), (.v (.int .u32 x11.d5)), (.v (.int .u32 x11.d6)), (.v (.int .u32 x11.d7)), (.v (.int .u32 x11.d8))]) H 2 rfl rfl rfl rfl rfl rfl rfl nofun rfl ?_
  refine Ops.loadHA (off := 0) (cs := [(.v (.int .u32 0)), (.v (.int .u32 (x12.tmod 65536))), (.v (.int .u32 (x14.tmod 65536))), (.v (.int .u32 (x16.tmod 65536))), (.v (.int .u32 (x18.tmod 65536))), (.v (.int .u32 (x20.tmod 65536))), (.v (.int .u32 0)), (.v (.int .u32 0)), (.v (.int .u32 0))]) H 0 rfl rfl rfl rfl rfl rfl rfl nofun rfl ?_
  obtain ⟨x22, q22, h⟩ := bind_some h
  refine Ops.call (ys := [(.agg [(.v (.int .u32 x11.d0)), (.v (.int .u32 x11.d1)), (.v (.int .u32 x11.d2)), (.v (.int .u32 x11.d3)), (.v (.int .u32 x11.d4)), (.v (.int .u32 x11.d5)), (.v (.int .u32 x11.d6)), (.v (.int .u32 x11.d7)), (.v (.int .u32 x11.d8))]), (.agg [(.v (.int .u32 0)), (.v (.int .u32 (x12.tmod 65536))), (.v (.int .u32 (x14.tmod 65536))), (.v (.int .u32 (x16.tmod 65536))), (.v (.int .u32 (x18.tmod 65536))), (.v (.int .u32 (x20.tmod 65536))), (.v (.int .u32 0)), (.v (.int .u32 0)), (.v (.int .u32 0))])]) (r := (.agg [(.v (.int .u32 x22.d0)), (.v (.int .u32 x22.d1)), (.v (.int .u32 x22.d2)), (.v (.int .u32 x22.d3)), (.v (.int .u32 x22.d4)), (.v (.int .u32 x22.d5)), (.v (.int .u32 x22.d6)), (.v (.int .u32 x22.d7)), (.v (.int .u32 x22.d8))])) rfl (epactref01_more_fn q22) rfl ?_
  refine Ops.fieldAddrH (off := 0) (fo := 1) H 2 rfl rfl rfl rfl rfl nofun rfl ?_
  refine Ops.storeH (off := 1) (v := (.agg [(.v (.int .u32 x22.d0)), (.v (.int .u32 x22.d1)), (.v (.int .u32 x22.d2)), (.v (.int .u32 x22.d3)), (.v (.int .u32 x22.d4)), (.v (.int .u32 x22.d5)), (.v (.int .u32 x22.d6)), (.v (.int .u32 x22.d7)), (.v (.int .u32 x22.d8))])) (ys := [(.v (.int .u32 x22.d0)), (.v (.int .u32 x22.d1)), (.v (.int .u32 x22.d2)), (.v (.int .u32 x22.d3)), (.v (.int .u32 x22.d4)), (.v (.int .u32 x22.d5)), (.v (.int .u32 x22.d6)), (.v (.int .u32 x22.d7)), (.v (.int .u32 x22.d8))]) (cells' := [(.v (.bool (a.minus != b.minus))), (.v (.int .u32 x22.d0)), (.v (.int .u32 x22.d1)), (.v (.int .u32 x22.d2)), (.v (.int .u32 x22.d3)), (.v (.int .u32 x22.d4)), (.v (.int .u32 x22.d5)), (.v (.int .u32 x22.d6)), (.v (.int .u32 x22.d7)), (.v (.int .u32 x22.d8))]) H 2 rfl rfl rfl rfl rfl rfl rfl rfl rfl nofun ?_; intro σ H
  apply Ops.nil
  replace H := H.all
  refine Runs.regionH 3 rfl H ?_; intro b67 σ H
  refine Ops.move (v := (.v (.int .i64 1))) rfl rfl ?_
  refine Ops.int (m := 1) (m' := 1) (r := .int .i64 2) rfl rfl rfl rfl rfl ?_
  refine Ops.assign (v := (.v (.int .i64 2))) rfl rfl ?_
  apply Ops.nil
  replace H := H.all
  apply Runs.again
  apply Runs.then
  apply Runs.then
  refine Runs.regionH 2 rfl H ?_; intro b68 σ H
  refine Ops.move (v := (.v (.int .i64 2))) rfl rfl ?_
  refine Ops.int (m := 2) (m' := 4) (r := .bool true) rfl rfl rfl rfl rfl ?_
  apply Ops.nil
  replace H := H.all
  refine Runs.yes rfl ?_
  apply Runs.skip
  apply Runs.then
  apply Runs.inBlock
  apply Runs.then
  refine Runs.regionH 1 rfl H ?_; intro b69 σ H
  refine Ops.allocH (cs := [(.v (.int .u32 0)), (.v (.int .u32 0)), (.v (.int .u32 0)), (.v (.int .u32 0)), (.v (.int .u32 0)), (.v (.int .u32 0)), (.v (.int .u32 0)), (.v (.int .u32 0)), (.v (.int .u32 0))]) H (by omega) (by omega) rfl rfl ?_; intro σ H
  apply Ops.nil
  replace H := H.all
  apply Runs.then
  refine Runs.regionH 1 rfl H ?_; intro b70 σ H
  refine Ops.assign (v := (.v (.int .u32 0))) rfl rfl ?_
  apply Ops.nil
  replace H := H.all
  apply Runs.then
  apply Runs.then
  refine Runs.regionH 1 rfl H ?_; intro b71 σ H
  refine Ops.assign (v := (.v (.int .i64 0))) rfl rfl ?_
  apply Ops.nil
  replace H := H.all
  apply Runs.inBlock
  apply Runs.again
  apply Runs.then
  apply Runs.then
  refine Runs.regionH 2 rfl H ?_; intro b72 σ H
  refine Ops.move (v := (.v (.int .i64 0))) rfl rfl ?_
  refine Ops.int (m := 0) (m' := 5) (r := .bool true) rfl rfl rfl rfl rfl ?_
  apply Ops.nil
  replace H := H.all
  refine Runs.yes rfl ?_
  apply Runs.skip
  apply Runs.then
  apply Runs.inBlock
  apply Runs.then
  refine Runs.drawnH 12 rfl (by kernel_rfl) H ?_; intro b73 σ H B73
  refine Ops.move (v := (.v (.int .i64 2))) rfl rfl ?_
  refine Ops.fieldAddrH (off := 0) (fo := 1) H 6 rfl rfl rfl rfl rfl (fun _ => .inl ⟨B73 6 _ rfl _ rfl, nofun⟩) rfl ?_
  refine Ops.arrAddrH (off := 1) (m := 9) (s := 1) (iv := 2) H 6 rfl rfl rfl rfl (by decide) (by decide) rfl rfl (fun _ => .inl ⟨B73 6 _ rfl _ rfl, nofun⟩) rfl ?_
  refine Ops.loadH (off := 3) (v := (.v (.int .u32 a.digits.d2))) H 6 rfl rfl rfl rfl rfl (fun _ => .inl ⟨B73 6 _ rfl _ rfl, nofun⟩) rfl ?_
  refine Ops.move (v := (.v (.int .i64 0))) rfl rfl ?_
  refine Ops.fieldAddrH (off := 0) (fo := 1) H 5 rfl rfl rfl rfl rfl (fun _ => .inl ⟨B73 5 _ rfl _ rfl, nofun⟩) rfl ?_
  refine Ops.arrAddrH (off := 1) (m := 9) (s := 1) (iv := 0) H 5 rfl rfl rfl rfl (by decide) (by decide) rfl rfl (fun _ => .inl ⟨B73 5 _ rfl _ rfl, nofun⟩) rfl ?_
  refine Ops.loadH (off := 1) (v := (.v (.int .u32 b.digits.d0))) H 5 rfl rfl rfl rfl rfl (fun _ => .inl ⟨B73 5 _ rfl _ rfl, nofun⟩) rfl ?_
  refine Ops.int (m := a.digits.d2) (m' := b.digits.d0) (r := .int .u32 (IntKind.u32.wrap (a.digits.d2 * b.digits.d0))) rfl rfl rfl rfl rfl ?_
  refine Ops.move (v := (.v (.int .u32 0))) rfl rfl ?_
  refine Ops.int (m := (IntKind.u32.wrap (a.digits.d2 * b.digits.d0))) (m' := 0) (r := .int .u32 (IntKind.u32.wrap ((IntKind.u32.wrap (a.digits.d2 * b.digits.d0)) + 0))) rfl rfl rfl rfl rfl ?_
  obtain ⟨x23, q23, h⟩ := bind_some h
  refine Ops.assign (v := (.v (.int .u32 x23))) (by rw [← Option.some.inj q23]; rfl) rfl ?_
  apply Ops.nil
  replace H := H.all
  apply Runs.then
  refine Runs.regionH 7 rfl H ?_; intro b74 σ H
  refine Ops.move (v := (.v (.int .i64 2))) rfl rfl ?_
  refine Ops.move (v := (.v (.int .i64 0))) rfl rfl ?_
  refine Ops.int (m := 2) (m' := 0) (r := .int .i64 2) rfl rfl rfl rfl rfl ?_
  refine Ops.move (v := (.v (.int .u32 x23))) rfl rfl ?_
  refine Ops.rem (m := x23) (m' := 65536) rfl rfl (by decide) rfl ?_
  refine Ops.arrAddrH (off := 0) (m := 9) (s := 1) (iv := 2) H 0 rfl rfl rfl rfl (by decide) (by decide) rfl rfl nofun rfl ?_
  refine Ops.storeH (off := 2) (v := (.v (.int .u32 (x23.tmod 65536)))) (ys := [(.v (.int .u32 (x23.tmod 65536)))]) (cells' := [(.v (.int .u32 0)), (.v (.int .u32 0)), (.v (.int .u32 (x23.tmod 65536))), (.v (.int .u32 0)), (.v (.int .u32 0)), (.v (.int .u32 0)), (.v (.int .u32 0)), (.v (.int .u32 0)), (.v (.int .u32 0))]) H 0 rfl rfl rfl rfl rfl rfl rfl rfl rfl nofun ?_; intro σ H
  apply Ops.nil
  replace H := H.all
  refine Runs.regionH 3 rfl H ?_; intro b75 σ H
  refine Ops.move (v := (.v (.int .u32 x23))) rfl rfl ?_
  refine Ops.quo (m := x23) (m' := 65536) rfl rfl (by decide) rfl ?_
  obtain ⟨x24, q24, h⟩ := bind_some h
  refine Ops.assign (v := (.v (.int .u32 x24))) (by rw [← Option.some.inj q24]; rfl) rfl ?_
  apply Ops.nil
  replace H := H.all
  refine Runs.regionH 3 rfl H ?_; intro b76 σ H
  refine Ops.move (v := (.v (.int .i64 0))) rfl rfl ?_
  refine Ops.int (m := 0) (m' := 1) (r := .int .i64 1) rfl rfl rfl rfl rfl ?_
  refine Ops.assign (v := (.v (.int .i64 1))) rfl rfl ?_
  apply Ops.nil
  replace H := H.all
  apply Runs.again
  apply Runs.then
  apply Runs.then
  refine Runs.regionH 2 rfl H ?_; intro b77 σ H
  refine Ops.move (v := (.v (.int .i64 1))) rfl rfl ?_
  refine Ops.int (m := 1) (m' := 5) (r := .bool true) rfl rfl rfl rfl rfl ?_
  apply Ops.nil
  replace H := H.all
  refine Runs.yes rfl ?_
  apply Runs.skip
  apply Runs.then
  apply Runs.inBlock
  apply Runs.then
  refine Runs.drawnH 12 rfl (by kernel_rfl) H ?_; intro b78 σ H B78
  refine Ops.move (v := (.v (.int .i64 2))) rfl rfl ?_
  refine Ops.fieldAddrH (off := 0) (fo := 1) H 6 rfl rfl rfl rfl rfl (fun _ => .inl ⟨B78 6 _ rfl _ rfl, nofun⟩) rfl ?_
  refine Ops.arrAddrH (off := 1) (m := 9) (s := 1) (iv := 2) H 6 rfl rfl rfl rfl (by decide) (by decide) rfl rfl (fun _ => .inl ⟨B78 6 _ rfl _ rfl, nofun⟩) rfl ?_
  refine Ops.loadH (off := 3) (v := (.v (.int .u32 a.digits.d2))) H 6 rfl rfl rfl rfl rfl (fun _ => .inl ⟨B78 6 _ rfl _ rfl, nofun⟩) rfl ?_
  refine Ops.move (v := (.v (.int .i64 1))) rfl rfl ?_
  refine Ops.fieldAddrH (off := 0) (fo := 1) H 5 rfl rfl rfl rfl rfl (fun _ => .inl ⟨B78 5 _ rfl _ rfl, nofun⟩) rfl ?_
  refine Ops.arrAddrH (off := 1) (m := 9) (s := 1) (iv := 1) H 5 rfl rfl rfl rfl (by decide) (by decide) rfl rfl (fun _ => .inl ⟨B78 5 _ rfl _ rfl, nofun⟩) rfl ?_
  refine Ops.loadH (off := 2) (v := (.v (.int .u32 b.digits.d1))) H 5 rfl rfl rfl rfl rfl (fun _ => .inl ⟨B78 5 _ rfl _ rfl, nofun⟩) rfl ?_
  refine Ops.int (m := a.digits.d2) (m' := b.digits.d1) (r := .int .u32 (IntKind.u32.wrap (a.digits.d2 * b.digits.d1))) rfl rfl rfl rfl rfl ?_
  refine Ops.move (v := (.v (.int .u32 x24))) rfl rfl ?_
  refine Ops.int (m := (IntKind.u32.wrap (a.digits.d2 * b.digits.d1))) (m' := x24) (r := .int .u32 (IntKind.u32.wrap ((IntKind.u32.wrap (a.digits.d2 * b.digits.d1)) + x24))) rfl rfl rfl rfl rfl ?_
  obtain ⟨x25, q25, h⟩ := bind_some h
  refine Ops.assign (v := (.v (.int .u32 x25))) (by rw [← Option.some.inj q25]; rfl) rfl ?_
  apply Ops.nil
  replace H := H.all
  apply Runs.then
  refine Runs.regionH 7 rfl H ?_; intro b79 σ H
  refine Ops.move (v := (.v (.int .i64 2))) rfl rfl ?_
  refine Ops.move (v := (.v (.int .i64 1))) rfl rfl ?_
  refine Ops.int (m := 2) (m' := 1) (r := .int .i64 3) rfl rfl rfl rfl rfl ?_
  refine Ops.move (v := (.v (.int .u32 x25))) rfl rfl ?_
  refine Ops.rem (m := x25) (m' := 65536) rfl rfl (by decide) rfl ?_
  refine Ops.arrAddrH (off := 0) (m := 9) (s := 1) (iv := 3) H 0 rfl rfl rfl rfl (by decide) (by decide) rfl rfl nofun rfl ?_
  refine Ops.storeH (off := 3) (v := (.v (.int .u32 (x25.tmod 65536)))) (ys := [(.v (.int .u32 (x25.tmod 65536)))]) (cells' := [(.v (.int .u32 0)), (.v (.int .u32 0)), (.v (.int .u32 (x23.tmod 65536))), (.v (.int .u32 (x25.tmod 65536))), (.v (.int .u32 0)), (.v (.int .u32 0)), (.v (.int .u32 0)), (.v (.int .u32 0)), (.v (.int .u32 0))]) H 0 rfl rfl rfl rfl rfl rfl rfl rfl rfl nofun ?_; intro σ H
  apply Ops.nil
  replace H := H.all
  refine Runs.regionH 3 rfl H ?_; intro b80 σ H
  refine Ops.move (v := (.v (.int .u32 x25))) rfl rfl ?_
  refine Ops.quo (m := x25) (m' := 65536) rfl rfl (by decide) rfl ?_
  obtain ⟨x26, q26, h⟩ := bind_some h
  refine Ops.assign (v := (.v (.int .u32 x26))) (by rw [← Option.some.inj q26]; rfl) rfl ?_
  apply Ops.nil
  replace H := H.all
  refine Runs.regionH 3 rfl H ?_; intro b81 σ H
  refine Ops.move (v := (.v (.int .i64 1))) rfl rfl ?_
  refine Ops.int (m := 1) (m' := 1) (r := .int .i64 2) rfl rfl rfl rfl rfl ?_
  refine Ops.assign (v := (.v (.int .i64 2))) rfl rfl ?_
  apply Ops.nil
  replace H := H.all
  apply Runs.again
  apply Runs.then
  apply Runs.then
  refine Runs.regionH 2 rfl H ?_; intro b82 σ H
  refine Ops.move (v := (.v (.int .i64 2))) rfl rfl ?_
  refine Ops.int (m := 2) (m' := 5) (r := .bool true) rfl rfl rfl rfl rfl ?_
  apply Ops.nil
  replace H := H.all
  refine Runs.yes rfl ?_
  apply Runs.skip
  apply Runs.then
  apply Runs.inBlock
  apply Runs.then
  refine Runs.drawnH 12 rfl (by kernel_rfl) H ?_; intro b83 σ H B83
  refine Ops.move (v := (.v (.int .i64 2))) rfl rfl ?_
  refine Ops.fieldAddrH (off := 0) (fo := 1) H 6 rfl rfl rfl rfl rfl (fun _ => .inl ⟨B83 6 _ rfl _ rfl, nofun⟩) rfl ?_
  refine Ops.arrAddrH (off := 1) (m := 9) (s := 1) (iv := 2) H 6 rfl rfl rfl rfl (by decide) (by decide) rfl rfl (fun _ => .inl ⟨B83 6 _ rfl _ rfl, nofun⟩) rfl ?_
  refine Ops.loadH (off := 3) (v := (.v (.int .u32 a.digits.d2))) H 6 rfl rfl rfl rfl rfl (fun _ => .inl ⟨B83 6 _ rfl _ rfl, nofun⟩) rfl ?_
  refine Ops.move (v := (.v (.int .i64 2))) rfl rfl ?_
  refine Ops.fieldAddrH (off := 0) (fo := 1) H 5 rfl rfl rfl rfl rfl (fun _ => .inl ⟨B83 5 _ rfl _ rfl, nofun⟩) rfl ?_
  refine Ops.arrAddrH (off := 1) (m := 9) (s := 1) (iv := 2) H 5 rfl rfl rfl rfl (by decide) (by decide) rfl rfl (fun _ => .inl ⟨B83 5 _ rfl _ rfl, nofun⟩) rfl ?_
  refine Ops.loadH (off := 3) (v := (.v (.int .u32 b.digits.d2))) H 5 rfl rfl rfl rfl rfl (fun _ => .inl ⟨B83 5 _ rfl _ rfl, nofun⟩) rfl ?_
  refine Ops.int (m := a.digits.d2) (m' := b.digits.d2) (r := .int .u32 (IntKind.u32.wrap (a.digits.d2 * b.digits.d2))) rfl rfl rfl rfl rfl ?_
  refine Ops.move (v := (.v (.int .u32 x26))) rfl rfl ?_
  refine Ops.int (m := (IntKind.u32.wrap (a.digits.d2 * b.digits.d2))) (m' := x26) (r := .int .u32 (IntKind.u32.wrap ((IntKind.u32.wrap (a.digits.d2 * b.digits.d2)) + x26))) rfl rfl rfl rfl rfl ?_
  obtain ⟨x27, q27, h⟩ := bind_some h
  refine Ops.assign (v := (.v (.int .u32 x27))) (by rw [← Option.some.inj q27]; rfl) rfl ?_
  apply Ops.nil
  replace H := H.all
  apply Runs.then
  refine Runs.regionH 7 rfl H ?_; intro b84 σ H
  refine Ops.move (v := (.v (.int .i64 2))) rfl rfl ?_
  refine Ops.move (v := (.v (.int .i64 2))) rfl rfl ?_
  refine Ops.int (m := 2) (m' := 2) (r := .int .i64 4) rfl rfl rfl rfl rfl ?_
  refine Ops.move (v := (.v (.int .u32 x27))) rfl rfl ?_
  refine Ops.rem (m := x27) (m' := 65536) rfl rfl (by decide) rfl ?_
  refine Ops.arrAddrH (off := 0) (m := 9) (s := 1) (iv := 4) H 0 rfl rfl rfl rfl (by decide) (by decide) rfl rfl nofun rfl ?_
  refine Ops.storeH (off := 4) (v := (.v (.int .u32 (x27.tmod 65536)))) (ys := [(.v (.int .u32 (x27.tmod 65536)))]) (cells' := [(.v (.int .u32 0)), (.v (.int .u32 0)), (.v (.int .u32 (x23.tmod 65536))), (.v (.int .u32 (x25.tmod 65536))), (.v (.int .u32 (x27.tmod 65536))), (.v (.int .u32 0)), (.v (.int .u32 0)), (.v (.int .u32 0)), (.v (.int .u32 0))]) H 0 rfl rfl rfl rfl rfl rfl rfl rfl rfl nofun ?_; intro σ H
  apply Ops.nil
  replace H := H.all
  refine Runs.regionH 3 rfl H ?_; intro b85 σ H
  refine Ops.move (v := (.v (.int .u32 x27))) rfl rfl ?_
  refine Ops.quo (m := x27) (m' := 65536) rfl rfl (by decide) rfl ?_
  obtain ⟨x28, q28, h⟩ := bind_some h
  refine Ops.assign (v := (.v (.int .u32 x28))) (by rw [← Option.some.inj q28]; rfl) rfl ?_
  apply Ops.nil
  replace H := H.all
  refine Runs.regionH 3 rfl H ?_; intro b86 σ H
  refine Ops.move (v := (.v (.int .i64 2))) rfl rfl ?_
  refine Ops.int (m := 2) (m' := 1) (r := .int .i64 3) rfl rfl rfl rfl rfl ?_
  refine Ops.assign (v := (.v (.int .i64 3))) rfl rfl ?_
  apply Ops.nil
  replace H := H.all
  apply Runs.again
  apply Runs.then
  apply Runs.then
  refine Runs.regionH 2 rfl H ?_; intro b87 σ H
  refine Ops.move (v := (.v (.int .i64 3))) rfl rfl ?_
  refine Ops.int (m := 3) (m' := 5) (r := .bool true) rfl rfl rfl rfl rfl ?_
  apply Ops.nil
  replace H := H.all
  refine Runs.yes rfl ?_
  apply Runs.skip
  apply Runs.then
  apply Runs.inBlock
  apply Runs.then
  refine Runs.drawnH 12 rfl (by kernel_rfl) H ?_; intro b88 σ H B88
  refine Ops.move (v := (.v (.int .i64 2))) rfl rfl ?_
  refine Ops.fieldAddrH (off := 0) (fo := 1) H 6 rfl rfl rfl rfl rfl (fun _ => .inl ⟨B88 6 _ rfl _ rfl, nofun⟩) rfl ?_
  refine Ops.arrAddrH (off := 1) (m := 9) (s := 1) (iv := 2) H 6 rfl rfl rfl rfl (by decide) (by decide) rfl rfl (fun _ => .inl ⟨B88 6 _ rfl _ rfl, nofun⟩) rfl ?_
  refine Ops.loadH (off := 3) (v := (.v (.int .u32 a.digits.d2))) H 6 rfl rfl rfl rfl rfl (fun _ => .inl ⟨B88 6 _ rfl _ rfl, nofun⟩) rfl ?_
  refine Ops.move (v := (.v (.int .i64 3))) rfl rfl ?_
  refine Ops.fieldAddrH (off := 0) (fo := 1) H 5 rfl rfl rfl rfl rfl (fun _ => .inl ⟨B88 5 _ rfl _ rfl, nofun⟩) rfl ?_
  refine Ops.arrAddrH (off := 1) (m := 9) (s := 1) (iv := 3) H 5 rfl rfl rfl rfl (by decide) (by decide) rfl rfl (fun _ => .inl ⟨B88 5 _ rfl _ rfl, nofun⟩) rfl ?_
  refine Ops.loadH (off := 4) (v := (.v (.int .u32 b.digits.d3))) H 5 rfl rfl rfl rfl rfl (fun _ => .inl ⟨B88 5 _ rfl _ rfl, nofun⟩) rfl ?_
  refine Ops.int (m := a.digits.d2) (m' := b.digits.d3) (r := .int .u32 (IntKind.u32.wrap (a.digits.d2 * b.digits.d3))) rfl rfl rfl rfl rfl ?_
  refine Ops.move (v := (.v (.int .u32 x28))) rfl rfl ?_
  refine Ops.int (m := (IntKind.u32.wrap (a.digits.d2 * b.digits.d3))) (m' := x28) (r := .int .u32 (IntKind.u32.wrap ((IntKind.u32.wrap (a.digits.d2 * b.digits.d3)) + x28))) rfl rfl rfl rfl rfl ?_
  obtain ⟨x29, q29, h⟩ := bind_some h
  refine Ops.assign (v := (.v (.int .u32 x29))) (by rw [← Option.some.inj q29]; rfl) rfl ?_
  apply Ops.nil
  replace H := H.all
  apply Runs.then
  refine Runs.regionH 7 rfl H ?_; intro b89 σ H
  refine Ops.move (v := (.v (.int .i64 2))) rfl rfl ?_
  refine Ops.move (v := (.v (.int .i64 3))) rfl rfl ?_
  refine Ops.int (m := 2) (m' := 3) (r := .int .i64 5) rfl rfl rfl rfl rfl ?_
  refine Ops.move (v := (.v (.int .u32 x29))) rfl rfl ?_
  refine Ops.rem (m := x29) (m' := 65536) rfl rfl (by decide) rfl ?_
  refine Ops.arrAddrH (off := 0) (m := 9) (s := 1) (iv := 5) H 0 rfl rfl rfl rfl (by decide) (by decide) rfl rfl nofun rfl ?_
  refine Ops.storeH (off := 5) (v := (.v (.int .u32 (x29.tmod 65536)))) (ys := [(.v (.int .u32 (x29.tmod 65536)))]) (cells' := [(.v (.int .u32 0)), (.v (.int .u32 0)), (.v (.int .u32 (x23.tmod 65536))), (.v (.int .u32 (x25.tmod 65536))), (.v (.int .u32 (x27.tmod 65536))), (.v (.int .u32 (x29.tmod 65536))), (.v (.int .u32 0)), (.v (.int .u32 0)), (.v (.int .u32 0))]) H 0 rfl rfl rfl rfl rfl rfl rfl rfl rfl nofun ?_; intro σ H
  apply Ops.nil
  replace H := H.all
  refine Runs.regionH 3 rfl H ?_; intro b90 σ H
  refine Ops.move (v := (.v (.int .u32 x29))) rfl rfl ?_
  refine Ops.quo (m := x29) (m' := 65536) rfl rfl (by decide) rfl ?_
  obtain ⟨x30, q30, h⟩ := bind_some h
  refine Ops.assign (v := (.v (.int .u32 x30))) (by rw [← Option.some.inj q30]; rfl) rfl ?_
  apply Ops.nil
  replace H := H.all
  refine Runs.regionH 3 rfl H ?_; intro b91 σ H
  refine Ops.move (v := (.v (.int .i64 3))) rfl rfl ?_
  refine Ops.int (m := 3) (m' := 1) (r := .int .i64 4) rfl rfl rfl rfl rfl ?_
  refine Ops.assign (v := (.v (.int .i64 4))) rfl rfl ?_
  apply Ops.nil
  replace H := H.all
  apply Runs.again
  apply Runs.then
  apply Runs.then
  refine Runs.regionH 2 rfl H ?_; intro b92 σ H
  refine Ops.move (v := (.v (.int .i64 4))) rfl rfl ?_
  refine Ops.int (m := 4) (m' := 5) (r := .bool true) rfl rfl rfl rfl rfl ?_
  apply Ops.nil
  replace H := H.all
  refine Runs.yes rfl ?_
  apply Runs.skip
  apply Runs.then
  apply Runs.inBlock
  apply Runs.then
  refine Runs.drawnH 12 rfl (by kernel_rfl) H ?_; intro b93 σ H B93
  refine Ops.move (v := (.v (.int .i64 2))) rfl rfl ?_
  refine Ops.fieldAddrH (off := 0) (fo := 1) H 6 rfl rfl rfl rfl rfl (fun _ => .inl ⟨B93 6 _ rfl _ rfl, nofun⟩) rfl ?_
  refine Ops.arrAddrH (off := 1) (m := 9) (s := 1) (iv := 2) H 6 rfl rfl rfl rfl (by decide) (by decide) rfl rfl (fun _ => .inl ⟨B93 6 _ rfl _ rfl, nofun⟩) rfl ?_
  refine Ops.loadH (off := 3) (v := (.v (.int .u32 a.digits.d2))) H 6 rfl rfl rfl rfl rfl (fun _ => .inl ⟨B93 6 _ rfl _ rfl, nofun⟩) rfl ?_
  refine Ops.move (v := (.v (.int .i64 4))) rfl rfl ?_
  refine Ops.fieldAddrH (off := 0) (fo := 1) H 5 rfl rfl rfl rfl rfl (fun _ => .inl ⟨B93 5 _ rfl _ rfl, nofun⟩) rfl ?_
  refine Ops.arrAddrH (off := 1) (m := 9) (s := 1) (iv := 4) H 5 rfl rfl rfl rfl (by decide) (by decide) rfl rfl (fun _ => .inl ⟨B93 5 _ rfl _ rfl, nofun⟩) rfl ?_
  refine Ops.loadH (off := 5) (v := (.v (.int .u32 b.digits.d4))) H 5 rfl rfl rfl rfl rfl (fun _ => .inl ⟨B93 5 _ rfl _ rfl, nofun⟩) rfl ?_
  refine Ops.int (m := a.digits.d2) (m' := b.digits.d4) (r := .int .u32 (IntKind.u32.wrap (a.digits.d2 * b.digits.d4))) rfl rfl rfl rfl rfl ?_
  refine Ops.move (v := (.v (.int .u32 x30))) rfl rfl ?_
  refine Ops.int (m := (IntKind.u32.wrap (a.digits.d2 * b.digits.d4))) (m' := x30) (r := .int .u32 (IntKind.u32.wrap ((IntKind.u32.wrap (a.digits.d2 * b.digits.d4)) + x30))) rfl rfl rfl rfl rfl ?_
  obtain ⟨x31, q31, h⟩ := bind_some h
  refine Ops.assign (v := (.v (.int .u32 x31))) (by rw [← Option.some.inj q31]; rfl) rfl ?_
  apply Ops.nil
  replace H := H.all
  apply Runs.then
  refine Runs.regionH 7 rfl H ?_; intro b94 σ H
  refine Ops.move (v := (.v (.int .i64 2))) rfl rfl ?_
  refine Ops.move (v := (.v (.int .i64 4))) rfl rfl ?_
  refine Ops.int (m := 2) (m' := 4) (r := .int .i64 6) rfl rfl rfl rfl rfl ?_
  refine Ops.move (v := (.v (.int .u32 x31))) rfl rfl ?_
  refine Ops.rem (m := x31) (m' := 65536) rfl rfl (by decide) rfl ?_
  refine Ops.arrAddrH (off := 0) (m := 9) (s := 1) (iv := 6) H 0 rfl rfl rfl rfl (by decide) (by decide) rfl rfl nofun rfl ?_
  refine Ops.storeH (off := 6) (v := (.v (.int .u32 (x31.tmod 65536)))) (ys := [(.v (.int .u32 (x31.tmod 65536)))]) (cells' := [(.v (.int .u32 0)), (.v (.int .u32 0)), (.v (.int .u32 (x23.tmod 65536))), (.v (.int .u32 (x25.tmod 65536))), (.v (.int .u32 (x27.tmod 65536))), (.v (.int .u32 (x29.tmod 65536))), (.v (.int .u32 (x31.tmod 65536))), (.v (.int .u32 0)), (.v (.int .u32 0))]) H 0 rfl rfl rfl rfl rfl rfl rfl rfl rfl nofun ?_; intro σ H
  apply Ops.nil
  replace H := H.all
  refine Runs.regionH 3 rfl H ?_; intro b95 σ H
  refine Ops.move (v := (.v (.int .u32 x31))) rfl rfl ?_
  refine Ops.quo (m := x31) (m' := 65536) rfl rfl (by decide) rfl ?_
  obtain ⟨x32, q32, h⟩ := bind_some h
  refine Ops.assign (v := (.v (.int .u32 x32))) (by rw [← Option.some.inj q32]; rfl) rfl ?_
  apply Ops.nil
  replace H := H.all
  refine Runs.regionH 3 rfl H ?_; intro b96 σ H
  refine Ops.move (v := (.v (.int .i64 4))) rfl rfl ?_
  refine Ops.int (m := 4) (m' := 1) (r := .int .i64 5) rfl rfl rfl rfl rfl ?_
  refine Ops.assign (v := (.v (.int .i64 5))) rfl rfl ?_
  apply Ops.nil
  replace H := H.all
  apply Runs.again
  apply Runs.then
  apply Runs.then
  refine Runs.regionH 2 rfl H ?_; intro b97 σ H
  refine Ops.move (v := (.v (.int .i64 5))) rfl rfl ?_
  refine Ops.int (m := 5) (m' := 5) (r := .bool false) rfl rfl rfl rfl rfl ?_
  apply Ops.nil
  replace H := H.all
  refine Runs.no rfl ?_
  apply Runs.exit
  refine Runs.regionH 6 rfl H ?_; intro b98 σ H
  refine Ops.fieldAddrH (off := 0) (fo := 1) H 3 rfl rfl rfl rfl rfl nofun rfl ?_
  refine Ops.loadHA (off := 1) (cs := [(.v (.int .u32 x22.d0)), (.v (.int .u32 x22.d1)), (.v (.int .u32 x22.d2)), (.v (.int .u32 x22.d3)), (.v (.int .u32 x22.d4)), (.v (.int .u32 x22.d5)), (.v (.int .u32 x22.d6)), (.v (.int .u32 x22.d7)), (.v (.int .u32 x22.d8))]) H 3 rfl rfl rfl rfl rfl rfl rfl nofun rfl ?_
  refine Ops.loadHA (off := 0) (cs := [(.v (.int .u32 0)), (.v (.int .u32 0)), (.v (.int .u32 (x23.tmod 65536))), (.v (.int .u32 (x25.tmod 65536))), (.v (.int .u32 (x27.tmod 65536))), (.v (.int .u32 (x29.tmod 65536))), (.v (.int .u32 (x31.tmod 65536))), (.v (.int .u32 0)), (.v (.int .u32 0))]) H 0 rfl rfl rfl rfl rfl rfl rfl nofun rfl ?_
  obtain ⟨x33, q33, h⟩ := bind_some h
  refine Ops.call (ys := [(.agg [(.v (.int .u32 x22.d0)), (.v (.int .u32 x22.d1)), (.v (.int .u32 x22.d2)), (.v (.int .u32 x22.d3)), (.v (.int .u32 x22.d4)), (.v (.int .u32 x22.d5)), (.v (.int .u32 x22.d6)), (.v (.int .u32 x22.d7)), (.v (.int .u32 x22.d8))]), (.agg [(.v (.int .u32 0)), (.v (.int .u32 0)), (.v (.int .u32 (x23.tmod 65536))), (.v (.int .u32 (x25.tmod 65536))), (.v (.int .u32 (x27.tmod 65536))), (.v (.int .u32 (x29.tmod 65536))), (.v (.int .u32 (x31.tmod 65536))), (.v (.int .u32 0)), (.v (.int .u32 0))])]) (r := (.agg [(.v (.int .u32 x33.d0)), (.v (.int .u32 x33.d1)), (.v (.int .u32 x33.d2)), (.v (.int .u32 x33.d3)), (.v (.int .u32 x33.d4)), (.v (.int .u32 x33.d5)), (.v (.int .u32 x33.d6)), (.v (.int .u32 x33.d7)), (.v (.int .u32 x33.d8))])) rfl (epactref01_more_fn q33) rfl ?_
  refine Ops.fieldAddrH (off := 0) (fo := 1) H 3 rfl rfl rfl rfl rfl nofun rfl ?_
  refine Ops.storeH (off := 1) (v := (.agg [(.v (.int .u32 x33.d0)), (.v (.int .u32 x33.d1)), (.v (.int .u32 x33.d2)), (.v (.int .u32 x33.d3)), (.v (.int .u32 x33.d4)), (.v (.int .u32 x33.d5)), (.v (.int .u32 x33.d6)), (.v (.int .u32 x33.d7)), (.v (.int .u32 x33.d8))])) (ys := [(.v (.int .u32 x33.d0)), (.v (.int .u32 x33.d1)), (.v (.int .u32 x33.d2)), (.v (.int .u32 x33.d3)), (.v (.int .u32 x33.d4)), (.v (.int .u32 x33.d5)), (.v (.int .u32 x33.d6)), (.v (.int .u32 x33.d7)), (.v (.int .u32 x33.d8))]) (cells' := [(.v (.bool (a.minus != b.minus))), (.v (.int .u32 x33.d0)), (.v (.int .u32 x33.d1)), (.v (.int .u32 x33.d2)), (.v (.int .u32 x33.d3)), (.v (.int .u32 x33.d4)), (.v (.int .u32 x33.d5)), (.v (.int .u32 x33.d6)), (.v (.int .u32 x33.d7)), (.v (.int .u32 x33.d8))]) H 3 rfl rfl rfl rfl rfl rfl rfl rfl rfl nofun ?_; intro σ H
  apply Ops.nil
  replace H := H.all
  refine Runs.regionH 3 rfl H ?_; intro b99 σ H
  refine Ops.move (v := (.v (.int .i64 2))) rfl rfl ?_
  refine Ops.int (m := 2) (m' := 1) (r := .int .i64 3) rfl rfl rfl rfl rfl ?_
  refine Ops.assign (v := (.v (.int .i64 3))) rfl rfl ?_
  apply Ops.nil
  replace H := H.all
  apply Runs.again
  apply Runs.then
  apply Runs.then
  refine Runs.regionH 2 rfl H ?_; intro b100 σ H
  refine Ops.move (v := (.v (.int .i64 3))) rfl rfl ?_
  refine Ops.int (m := 3) (m' := 4) (r := .bool true) rfl rfl rfl rfl rfl ?_
  apply Ops.nil
  replace H := H.all
  refine Runs.yes rfl ?_
  apply Runs.skip
  apply Runs.then
  apply Runs.inBlock
  apply Runs.then
  refine Runs.regionH 1 rfl H ?_; intro b101 σ H
  refine Ops.allocH (cs := [(.v (.int .u32 0)), (.v (.int .u32 0)), (.v (.int .u32 0)), (.v (.int .u32 0)), (.v (.int .u32 0)), (.v (.int .u32 0)), (.v (.int .u32 0)), (.v (.int .u32 0)), (.v (.int .u32 0))]) H (by omega) (by omega) rfl rfl ?_; intro σ H
  apply Ops.nil
  replace H := H.all
  apply Runs.then
  refine Runs.regionH 1 rfl H ?_; intro b102 σ H
  refine Ops.assign (v := (.v (.int .u32 0))) rfl rfl ?_
  apply Ops.nil
  replace H := H.all
  apply Runs.then
  apply Runs.then
  refine Runs.regionH 1 rfl H ?_; intro b103 σ H
  refine Ops.assign (v := (.v (.int .i64 0))) rfl rfl ?_
  apply Ops.nil
  replace H := H.all
  apply Runs.inBlock
  apply Runs.again
  apply Runs.then
  apply Runs.then
  refine Runs.regionH 2 rfl H ?_; intro b104 σ H
  refine Ops.move (v := (.v (.int .i64 0))) rfl rfl ?_
  refine Ops.int (m := 0) (m' := 5) (r := .bool true) rfl rfl rfl rfl rfl ?_
  apply Ops.nil
  replace H := H.all
  refine Runs.yes rfl ?_
  apply Runs.skip
  apply Runs.then
  apply Runs.inBlock
  apply Runs.then
  refine Runs.drawnH 12 rfl (by kernel_rfl) H ?_; intro b105 σ H B105
  refine Ops.move (v := (.v (.int .i64 3))) rfl rfl ?_
  refine Ops.fieldAddrH (off := 0) (fo := 1) H 7 rfl rfl rfl rfl rfl (fun _ => .inl ⟨B105 7 _ rfl _ rfl, nofun⟩) rfl ?_
  refine Ops.arrAddrH (off := 1) (m := 9) (s := 1) (iv := 3) H 7 rfl rfl rfl rfl (by decide) (by decide) rfl rfl (fun _ => .inl ⟨B105 7 _ rfl _ rfl, nofun⟩) rfl ?_
  refine Ops.loadH (off := 4) (v := (.v (.int .u32 a.digits.d3))) H 7 rfl rfl rfl rfl rfl (fun _ => .inl ⟨B105 7 _ rfl _ rfl, nofun⟩) rfl ?_
  refine Ops.move (v := (.v (.int .i64 0))) rfl rfl ?_
  refine Ops.fieldAddrH (off := 0) (fo := 1) H 6 rfl rfl rfl rfl rfl (fun _ => .inl ⟨B105 6 _ rfl _ rfl, nofun⟩) rfl ?_
  refine Ops.arrAddrH (off := 1) (m := 9) (s := 1) (iv := 0) H 6 rfl rfl rfl rfl (by decide) (by decide) rfl rfl (fun _ => .inl ⟨B105 6 _ rfl _ rfl, nofun⟩) rfl ?_
  refine Ops.loadH (off := 1) (v := (.v (.int .u32 b.digits.d0))) H 6 rfl rfl rfl rfl rfl (fun _ => .inl ⟨B105 6 _ rfl _ rfl, nofun⟩) rfl ?_
  refine Ops.int (m := a.digits.d3) (m' := b.digits.d0) (r := .int .u32 (IntKind.u32.wrap (a.digits.d3 * b.digits.d0))) rfl rfl rfl rfl rfl ?_
  refine Ops.move (v := (.v (.int .u32 0))) rfl rfl ?_
  refine Ops.int (m := (IntKind.u32.wrap (a.digits.d3 * b.digits.d0))) (m' := 0) (r := .int .u32 (IntKind.u32.wrap ((IntKind.u32.wrap (a.digits.d3 * b.digits.d0)) + 0))) rfl rfl rfl rfl rfl ?_
  obtain ⟨x34, q34, h⟩ := bind_some h
  refine Ops.assign (v := (.v (.int .u32 x34))) (by rw [← Option.some.inj q34]; rfl) rfl ?_
  apply Ops.nil
  replace H := H.all
  apply Runs.then
  refine Runs.regionH 7 rfl H ?_; intro b106 σ H
  refine Ops.move (v := (.v (.int .i64 3))) rfl rfl ?_
  refine Ops.move (v := (.v (.int .i64 0))) rfl rfl ?_
  refine Ops.int (m := 3) (m' := 0) (r := .int .i64 3) rfl rfl rfl rfl rfl ?_
  refine Ops.move (v := (.v (.int .u32 x34))) rfl rfl ?_
  refine Ops.rem (m := x34) (m' := 65536) rfl rfl (by decide) rfl ?_
  refine Ops.arrAddrH (off := 0) (m := 9) (s := 1) (iv := 3) H 0 rfl rfl rfl rfl (by decide) (by decide) rfl rfl nofun rfl ?_
  refine Ops.storeH (off := 3) (v := (.v (.int .u32 (x34.tmod 65536)))) (ys := [(.v (.int .u32 (x34.tmod 65536)))]) (cells' := [(.v (.int .u32 0)), (.v (.int .u32 0)), (.v (.int .u32 0)), (.v (.int .u32 (x34.tmod 65536))), (.v (.int .u32 0)), (.v (.int .u32 0)), (.v (.int .u32 0)), (.v (.int .u32 0)), (.v (.int .u32 0))]) H 0 rfl rfl rfl rfl rfl rfl rfl rfl rfl nofun ?_; intro σ H
  apply Ops.nil
  replace H := H.all
  refine Runs.regionH 3 rfl H ?_; intro b107 σ H
  refine Ops.move (v := (.v (.int .u32 x34))) rfl rfl ?_
  refine Ops.quo (m := x34) (m' := 65536) rfl rfl (by decide) rfl ?_
  obtain ⟨x35, q35, h⟩ := bind_some h
  refine Ops.assign (v := (.v (.int .u32 x35))) (by rw [← Option.some.inj q35]; rfl) rfl ?_
  apply Ops.nil
  replace H := H.all
  refine Runs.regionH 3 rfl H ?_; intro b108 σ H
  refine Ops.move (v := (.v (.int .i64 0))) rfl rfl ?_
  refine Ops.int (m := 0) (m' := 1) (r := .int .i64 1) rfl rfl rfl rfl rfl ?_
  refine Ops.assign (v := (.v (.int .i64 1))) rfl rfl ?_
  apply Ops.nil
  replace H := H.all
  apply Runs.again
  apply Runs.then
  apply Runs.then
  refine Runs.regionH 2 rfl H ?_; intro b109 σ H
  refine Ops.move (v := (.v (.int .i64 1))) rfl rfl ?_
  refine Ops.int (m := 1) (m' := 5) (r := .bool true) rfl rfl rfl rfl rfl ?_
  apply Ops.nil
  replace H := H.all
  refine Runs.yes rfl ?_
  apply Runs.skip
  apply Runs.then
  apply Runs.inBlock
  apply Runs.then
  refine Runs.drawnH 12 rfl (by kernel_rfl) H ?_; intro b110 σ H B110
  refine Ops.move (v := (.v (.int .i64 3))) rfl rfl ?_
  refine Ops.fieldAddrH (off := 0) (fo := 1) H 7 rfl rfl rfl rfl rfl (fun _ => .inl ⟨B110 7 _ rfl _ rfl, nofun⟩) rfl ?_
  refine Ops.arrAddrH (off := 1) (m := 9) (s := 1) (iv := 3) H 7 rfl rfl rfl rfl (by decide) (by decide) rfl rfl (fun _ => .inl ⟨B110 7 _ rfl _ rfl, nofun⟩) rfl ?_
  refine Ops.loadH (off := 4) (v := (.v (.int .u32 a.digits.d3))) H 7 rfl rfl rfl rfl rfl (fun _ => .inl ⟨B110 7 _ rfl _ rfl, nofun⟩) rfl ?_
  refine Ops.move (v := (.v (.int .i64 1))) rfl rfl ?_
  refine Ops.fieldAddrH (off := 0) (fo := 1) H 6 rfl rfl rfl rfl rfl (fun _ => .inl ⟨B110 6 _ rfl _ rfl, nofun⟩) rfl ?_
  refine Ops.arrAddrH (off := 1) (m := 9) (s := 1) (iv := 1) H 6 rfl rfl rfl rfl (by decide) (by decide) rfl rfl (fun _ => .inl ⟨B110 6 _ rfl _ rfl, nofun⟩) rfl ?_
  refine Ops.loadH (off := 2) (v := (.v (.int .u32 b.digits.d1))) H 6 rfl rfl rfl rfl rfl (fun _ => .inl ⟨B110 6 _ rfl _ rfl, nofun⟩) rfl ?_
  refine Ops.int (m := a.digits.d3) (m' := b.digits.d1) (r := .int .u32 (IntKind.u32.wrap (a.digits.d3 * b.digits.d1))) rfl rfl rfl rfl rfl ?_
  refine Ops.move (v := (.v (.int .u32 x35))) rfl rfl ?_
  refine Ops.int (m := (IntKind.u32.wrap (a.digits.d3 * b.digits.d1))) (m' := x35) (r := .int .u32 (IntKind.u32.wrap ((IntKind.u32.wrap (a.digits.d3 * b.digits.d1)) + x35))) rfl rfl rfl rfl rfl ?_
  obtain ⟨x36, q36, h⟩ := bind_some h
  refine Ops.assign (v := (.v (.int .u32 x36))) (by rw [← Option.some.inj q36]; rfl) rfl ?_
  apply Ops.nil
  replace H := H.all
  apply Runs.then
  refine Runs.regionH 7 rfl H ?_; intro b111 σ H
  refine Ops.move (v := (.v (.int .i64 3))) rfl rfl ?_
  refine Ops.move (v := (.v (.int .i64 1))) rfl rfl ?_
  refine Ops.int (m := 3) (m' := 1) (r := .int .i64 4) rfl rfl rfl rfl rfl ?_
  refine Ops.move (v := (.v (.int .u32 x36))) rfl rfl ?_
  refine Ops.rem (m := x36) (m' := 65536) rfl rfl (by decide) rfl ?_
  refine Ops.arrAddrH (off := 0) (m := 9) (s := 1) (iv := 4) H 0 rfl rfl rfl rfl (by decide) (by decide) rfl rfl nofun rfl ?_
  refine Ops.storeH (off := 4) (v := (.v (.int .u32 (x36.tmod 65536)))) (ys := [(.v (.int .u32 (x36.tmod 65536)))]) (cells' := [(.v (.int .u32 0)), (.v (.int .u32 0)), (.v (.int .u32 0)), (.v (.int .u32 (x34.tmod 65536))), (.v (.int .u32 (x36.tmod 65536))), (.v (.int .u32 0)), (.v (.int .u32 0)), (.v (.int .u32 0)), (.v (.int .u32 0))]) H 0 rfl rfl rfl rfl rfl rfl rfl rfl rfl nofun ?_; intro σ H
  apply Ops.nil
  replace H := H.all
  refine Runs.regionH 3 rfl H ?_; intro b112 σ H
  refine Ops.move (v := (.v (.int .u32 x36))) rfl rfl ?_
  refine Ops.quo (m := x36) (m' := 65536) rfl rfl (by decide) rfl ?_
  obtain ⟨x37, q37, h⟩ := bind_some h
  refine Ops.assign (v := (.v (.int .u32 x37))) (by rw [← Option.some.inj q37]; rfl) rfl ?_
  apply Ops.nil
  replace H := H.all
  refine Runs.regionH 3 rfl H ?_; intro b113 σ H
  refine Ops.move (v := (.v (.int .i64 1))) rfl rfl ?_
  refine Ops.int (m := 1) (m' := 1) (r := .int .i64 2) rfl rfl rfl rfl rfl ?_
  refine Ops.assign (v := (.v (.int .i64 2))) rfl rfl ?_
  apply Ops.nil
  replace H := H.all
  apply Runs.again
  apply Runs.then
  apply Runs.then
  refine Runs.regionH 2 rfl H ?_; intro b114 σ H
  refine Ops.move (v := (.v (.int .i64 2))) rfl rfl ?_
  refine Ops.int (m := 2) (m' := 5) (r := .bool true) rfl rfl rfl rfl rfl ?_
  apply Ops.nil
  replace H := H.all
  refine Runs.yes rfl ?_
  apply Runs.skip
  apply Runs.then
  apply Runs.inBlock
  apply Runs.then
  refine Runs.drawnH 12 rfl (by kernel_rfl) H ?_; intro b115 σ H B115
  refine Ops.move (v := (.v (.int .i64 3))) rfl rfl ?_
  refine Ops.fieldAddrH (off := 0) (fo := 1) H 7 rfl rfl rfl rfl rfl (fun _ => .inl ⟨B115 7 _ rfl _ rfl, nofun⟩) rfl ?_
  refine Ops.arrAddrH (off := 1) (m := 9) (s := 1) (iv := 3) H 7 rfl rfl rfl rfl (by decide) (by decide) rfl rfl (fun _ => .inl ⟨B115 7 _ rfl _ rfl, nofun⟩) rfl ?_
  refine Ops.loadH (off := 4) (v := (.v (.int .u32 a.digits.d3))) H 7 rfl rfl rfl rfl rfl (fun _ => .inl ⟨B115 7 _ rfl _ rfl, nofun⟩) rfl ?_
  refine Ops.move (v := (.v (.int .i64 2))) rfl rfl ?_
  refine Ops.fieldAddrH (off := 0) (fo := 1) H 6 rfl rfl rfl rfl rfl (fun _ => .inl ⟨B115 6 _ rfl _ rfl, nofun⟩) rfl ?_
  refine Ops.arrAddrH (off := 1) (m := 9) (s := 1) (iv := 2) H 6 rfl rfl rfl rfl (by decide) (by decide) rfl rfl (fun _ => .inl ⟨B115 6 _ rfl _ rfl, nofun⟩) rfl ?_
  refine Ops.loadH (off := 3) (v := (.v (.int .u32 b.digits.d2))) H 6 rfl rfl rfl rfl rfl (fun _ => .inl ⟨B115 6 _ rfl _ rfl, nofun⟩) rfl ?_
  refine Ops.int (m := a.digits.d3) (m' := b.digits.d2) (r := .int .u32 (IntKind.u32.wrap (a.digits.d3 * b.digits.d2))) rfl rfl rfl rfl rfl ?_
  refine Ops.move (v := (.v (.int .u32 x37))) rfl rfl ?_
  refine Ops.int (m := (IntKind.u32.wrap (a.digits.d3 * b.digits.d2))) (m' := x37) (r := .int .u32 (IntKind.u32.wrap ((IntKind.u32.wrap (a.digits.d3 * b.digits.d2)) + x37))) rfl rfl rfl rfl rfl ?_
  obtain ⟨x38, q38, h⟩ := bind_some h
  refine Ops.assign (v := (.v (.int .u32 x38))) (by rw [← Option.some.inj q38]; rfl) rfl ?_
  apply Ops.nil
  replace H := H.all
  apply Runs.then
  refine Runs.regionH 7 rfl H ?_; intro b116 σ H
  refine Ops.move (v := (.v (.int .i64 3))) rfl rfl ?_
  refine Ops.move (v := (.v (.int .i64 2))) rfl rfl ?_
  refine Ops.int (m := 3) (m' := 2) (r := .int .i64 5) rfl rfl rfl rfl rfl ?_
  refine Ops.move (v := (.v (.int .u32 x38))) rfl rfl ?_
  refine Ops.rem (m := x38) (m' := 65536) rfl rfl (by decide) rfl ?_
  refine Ops.arrAddrH (off := 0) (m := 9) (s := 1) (iv := 5) H 0 rfl rfl rfl rfl (by decide) (by decide) rfl rfl nofun rfl ?_
  refine Ops.storeH (off := 5) (v := (.v (.int .u32 (x38.tmod 65536)))) (ys := [(.v (.int .u32 (x38.tmod 65536)))]) (cells' := [(.v (.int .u32 0)), (.v (.int .u32 0)), (.v (.int .u32 0)), (.v (.int .u32 (x34.tmod 65536))), (.v (.int .u32 (x36.tmod 65536))), (.v (.int .u32 (x38.tmod 65536))), (.v (.int .u32 0)), (.v (.int .u32 0)), (.v (.int .u32 0))]) H 0 rfl rfl rfl rfl rfl rfl rfl rfl rfl nofun ?_; intro σ H
  apply Ops.nil
  replace H := H.all
  refine Runs.regionH 3 rfl H ?_; intro b117 σ H
  refine Ops.move (v := (.v (.int .u32 x38))) rfl rfl ?_
  refine Ops.quo (m := x38) (m' := 65536) rfl rfl (by decide) rfl ?_
  obtain ⟨x39, q39, h⟩ := bind_some h
  refine Ops.assign (v := (.v (.int .u32 x39))) (by rw [← Option.some.inj q39]; rfl) rfl ?_
  apply Ops.nil
  replace H := H.all
  refine Runs.regionH 3 rfl H ?_; intro b118 σ H
  refine Ops.move (v := (.v (.int .i64 2))) rfl rfl ?_
  refine Ops.int (m := 2) (m' := 1) (r := .int .i64 3) rfl rfl rfl rfl rfl ?_
  refine Ops.assign (v := (.v (.int .i64 3))) rfl rfl ?_
  apply Ops.nil
  replace H := H.all
  apply Runs.again
  apply Runs.then
  apply Runs.then
  refine Runs.regionH 2 rfl H ?_; intro b119 σ H
  refine Ops.move (v := (.v (.int .i64 3))) rfl rfl ?_
  refine Ops.int (m := 3) (m' := 5) (r := .bool true) rfl rfl rfl rfl rfl ?_
  apply Ops.nil
  replace H := H.all
  refine Runs.yes rfl ?_
  apply Runs.skip
  apply Runs.then
  apply Runs.inBlock
  apply Runs.then
  refine Runs.drawnH 12 rfl (by kernel_rfl) H ?_; intro b120 σ H B120
  refine Ops.move (v := (.v (.int .i64 3))) rfl rfl ?_
  refine Ops.fieldAddrH (off := 0) (fo := 1) H 7 rfl rfl rfl rfl rfl (fun _ => .inl ⟨B120 7 _ rfl _ rfl, nofun⟩) rfl ?_
  refine Ops.arrAddrH (off := 1) (m := 9) (s := 1) (iv := 3) H 7 rfl rfl rfl rfl (by decide) (by decide) rfl rfl (fun _ => .inl ⟨B120 7 _ rfl _ rfl, nofun⟩) rfl ?_
  refine Ops.loadH (off := 4) (v := (.v (.int .u32 a.digits.d3))) H 7 rfl rfl rfl rfl rfl (fun _ => .inl ⟨B120 7 _ rfl _ rfl, nofun⟩) rfl ?_
  refine Ops.move (v := (.v (.int .i64 3))) rfl rfl ?_
  refine Ops.fieldAddrH (off := 0) (fo := 1) H 6 rfl rfl rfl rfl rfl (fun _ => .inl ⟨B120 6 _ rfl _ rfl, nofun⟩) rfl ?_
  refine Ops.arrAddrH (off := 1) (m := 9) (s := 1) (iv := 3) H 6 rfl rfl rfl rfl (by decide) (by decide) rfl rfl (fun _ => .inl ⟨B120 6 _ rfl _ rfl, nofun⟩) rfl ?_
  refine Ops.loadH (off := 4) (v := (.v (.int .u32 b.digits.d3))) H 6 rfl rfl rfl rfl rfl (fun _ => .inl ⟨B120 6 _ rfl _ rfl, nofun⟩) rfl ?_
  refine Ops.int (m := a.digits.d3) (m' := b.digits.d3) (r := .int .u32 (IntKind.u32.wrap (a.digits.d3 * b.digits.d3))) rfl rfl rfl rfl rfl ?_
  refine Ops.move (v := (.v (.int .u32 x39))) rfl rfl ?_
  refine Ops.int (m := (IntKind.u32.wrap (a.digits.d3 * b.digits.d3))) (m' := x39) (r := .int .u32 (IntKind.u32.wrap ((IntKind.u32.wrap (a.digits.d3 * b.digits.d3)) + x39))) rfl rfl rfl rfl rfl ?_
  obtain ⟨x40, q40, h⟩ := bind_some h
  refine Ops.assign (v := (.v (.int .u32 x40))) (by rw [← Option.some.inj q40]; rfl) rfl ?_
  apply Ops.nil
  replace H := H.all
  apply Runs.then
  refine Runs.regionH 7 rfl H ?_; intro b121 σ H
  refine Ops.move (v := (.v (.int .i64 3))) rfl rfl ?_
  refine Ops.move (v := (.v (.int .i64 3))) rfl rfl ?_
  refine Ops.int (m := 3) (m' := 3) (r := .int .i64 6) rfl rfl rfl rfl rfl ?_
  refine Ops.move (v := (.v (.int .u32 x40))) rfl rfl ?_
  refine Ops.rem (m := x40) (m' := 65536) rfl rfl (by decide) rfl ?_
  refine Ops.arrAddrH (off := 0) (m := 9) (s := 1) (iv := 6) H 0 rfl rfl rfl rfl (by decide) (by decide) rfl rfl nofun rfl ?_
  refine Ops.storeH (off := 6) (v := (.v (.int .u32 (x40.tmod 65536)))) (ys := [(.v (.int .u32 (x40.tmod 65536)))]) (cells' := [(.v (.int .u32 0)), (.v (.int .u32 0)), (.v (.int .u32 0)), (.v (.int .u32 (x34.tmod 65536))), (.v (.int .u32 (x36.tmod 65536))), (.v (.int .u32 (x38.tmod 65536))), (.v (.int .u32 (x40.tmod 65536))), (.v (.int .u32 0)), (.v (.int .u32 0))]) H 0 rfl rfl rfl rfl rfl rfl rfl rfl rfl nofun ?_; intro σ H
  apply Ops.nil
  replace H := H.all
  refine Runs.regionH 3 rfl H ?_; intro b122 σ H
  refine Ops.move (v := (.v (.int .u32 x40))) rfl rfl ?_
  refine Ops.quo (m := x40) (m' := 65536) rfl rfl (by decide) rfl ?_
  obtain ⟨x41, q41, h⟩ := bind_some h
  refine Ops.assign (v := (.v (.int .u32 x41))) (by rw [← Option.some.inj q41]; rfl) rfl ?_
  apply Ops.nil
  replace H := H.all
  refine Runs.regionH 3 rfl H ?_; intro b123 σ H
  refine Ops.move (v := (.v (.int .i64 3))) rfl rfl ?_
  refine Ops.int (m := 3) (m' := 1) (r := .int .i64 4) rfl rfl rfl rfl rfl ?_
  refine Ops.assign (v := (.v (.int .i64 4))) rfl rfl ?_
  apply Ops.nil
  replace H := H.all
  apply Runs.again
  apply Runs.then
  apply Runs.then
  refine Runs.regionH 2 rfl H ?_; intro b124 σ H
  refine Ops.move (v := (.v (.int .i64 4))) rfl rfl ?_
  refine Ops.int (m := 4) (m' := 5) (r := .bool true) rfl rfl rfl rfl rfl ?_
  apply Ops.nil
  replace H := H.all
  refine Runs.yes rfl ?_
  apply Runs.skip
  apply Runs.then
  apply Runs.inBlock
  apply Runs.then
  refine Runs.drawnH 12 rfl (by kernel_rfl) H ?_; intro b125 σ H B125
  refine Ops.move (v := (.v (.int .i64 3))) rfl rfl ?_
  refine Ops.fieldAddrH (off := 0) (fo := 1) H 7 rfl rfl rfl rfl rfl (fun _ => .inl ⟨B125 7 _ rfl _ rfl, nofun⟩) rfl ?_
  refine Ops.arrAddrH (off := 1) (m := 9) (s := 1) (iv := 3) H 7 rfl rfl rfl rfl (by decide) (by decide) rfl rfl (fun _ => .inl ⟨B125 7 _ rfl _ rfl, nofun⟩) rfl ?_
  refine Ops.loadH (off := 4) (v := (.v (.int .u32 a.digits.d3))) H 7 rfl rfl rfl rfl rfl (fun _ => .inl ⟨B125 7 _ rfl _ rfl, nofun⟩) rfl ?_
  refine Ops.move (v := (.v (.int .i64 4))) rfl rfl ?_
  refine Ops.fieldAddrH (off := 0) (fo := 1) H 6 rfl rfl rfl rfl rfl (fun _ => .inl ⟨B125 6 _ rfl _ rfl, nofun⟩) rfl ?_
  refine Ops.arrAddrH (off := 1) (m := 9) (s := 1) (iv := 4) H 6 rfl rfl rfl rfl (by decide) (by decide) rfl rfl (fun _ => .inl ⟨B125 6 _ rfl _ rfl, nofun⟩) rfl ?_
  refine Ops.loadH (off := 5) (v := (.v (.int .u32 b.digits.d4))) H 6 rfl rfl rfl rfl rfl (fun _ => .inl ⟨B125 6 _ rfl _ rfl, nofun⟩) rfl ?_
  refine Ops.int (m := a.digits.d3) (m' := b.digits.d4) (r := .int .u32 (IntKind.u32.wrap (a.digits.d3 * b.digits.d4))) rfl rfl rfl rfl rfl ?_
  refine Ops.move (v := (.v (.int .u32 x41))) rfl rfl ?_
  refine Ops.int (m := (IntKind.u32.wrap (a.digits.d3 * b.digits.d4))) (m' := x41) (r := .int .u32 (IntKind.u32.wrap ((IntKind.u32.wrap (a.digits.d3 * b.digits.d4)) + x41))) rfl rfl rfl rfl rfl ?_
  obtain ⟨x42, q42, h⟩ := bind_some h
  refine Ops.assign (v := (.v (.int .u32 x42))) (by rw [← Option.some.inj q42]; rfl) rfl ?_
  apply Ops.nil
  replace H := H.all
  apply Runs.then
  refine Runs.regionH 7 rfl H ?_; intro b126 σ H
  refine Ops.move (v := (.v (.int .i64 3))) rfl rfl ?_
  refine Ops.move (v := (.v (.int .i64 4))) rfl rfl ?_
  refine Ops.int (m := 3) (m' := 4) (r := .int .i64 7) rfl rfl rfl rfl rfl ?_
  refine Ops.move (v := (.v (.int .u32 x42))) rfl rfl ?_
  refine Ops.rem (m := x42) (m' := 65536) rfl rfl (by decide) rfl ?_
  refine Ops.arrAddrH (off := 0) (m := 9) (s := 1) (iv := 7) H 0 rfl rfl rfl rfl (by decide) (by decide) rfl rfl nofun rfl ?_
  refine Ops.storeH (off := 7) (v := (.v (.int .u32 (x42.tmod 65536)))) (ys := [(.v (.int .u32 (x42.tmod 65536)))]) (cells' := [(.v (.int .u32 0)), (.v (.int .u32 0)), (.v (.int .u32 0)), (.v (.int .u32 (x34.tmod 65536))), (.v (.int .u32 (x36.tmod 65536))), (.v (.int .u32 (x38.tmod 65536))), (.v (.int .u32 (x40.tmod 65536))), (.v (.int .u32 (x42.tmod 65536))), (.v (.int .u32 0))]) H 0 rfl rfl rfl rfl rfl rfl rfl rfl rfl nofun ?_; intro σ H
  apply Ops.nil
  replace H := H.all
  refine Runs.regionH 3 rfl H ?_; intro b127 σ H
  refine Ops.move (v := (.v (.int .u32 x42))) rfl rfl ?_
  refine Ops.quo (m := x42) (m' := 65536) rfl rfl (by decide) rfl ?_
  obtain ⟨x43, q43, h⟩ := bind_some h
  refine Ops.assign (v := (.v (.int .u32 x43))) (by rw [← Option.some.inj q43]; rfl) rfl ?_
  apply Ops.nil
  replace H := H.all
  refine Runs.regionH 3 rfl H ?_; intro b128 σ H
  refine Ops.move (v := (.v (.int .i64 4))) rfl rfl ?_
  refine Ops.int (m := 4) (m' := 1) (r := .int .i64 5) rfl rfl rfl rfl rfl ?_
  refine Ops.assign (v := (.v (.int .i64 5))) rfl rfl ?_
  apply Ops.nil
  replace H := H.all
  apply Runs.again
  apply Runs.then
  apply Runs.then
  refine Runs.regionH 2 rfl H ?_; intro b129 σ H
  refine Ops.move (v := (.v (.int .i64 5))) rfl rfl ?_
  refine Ops.int (m := 5) (m' := 5) (r := .bool false) rfl rfl rfl rfl rfl ?_
  apply Ops.nil
  replace H := H.all
  refine Runs.no rfl ?_
  apply Runs.exit
  refine Runs.regionH 6 rfl H ?_; intro b130 σ H
  refine Ops.fieldAddrH (off := 0) (fo := 1) H 4 rfl rfl rfl rfl rfl nofun rfl ?_
  refine Ops.loadHA (off := 1) (cs := [(.v (.int .u32 x33.d0)), (.v (.int .u32 x33.d1)), (.v (.int .u32 x33.d2)), (.v (.int .u32 x33.d3)), (.v (.int .u32 x33.d4)), (.v (.int .u32 x33.d5)), (.v (.int .u32 x33.d6)), (.v (.int .u32 x33.d7)), (.v (.int .u32 x33.d8))]) H 4 rfl rfl rfl rfl rfl rfl rfl nofun rfl ?_
  refine Ops.loadHA (off := 0) (cs := [(.v (.int .u32 0)), (.v (.int .u32 0)), (.v (.int .u32 0)), (.v (.int .u32 (x34.tmod 65536))), (.v (.int .u32 (x36.tmod 65536))), (.v (.int .u32 (x38.tmod 65536))), (.v (.int .u32 (x40.tmod 65536))), (.v (.int .u32 (x42.tmod 65536))), (.v (.int .u32 0))]) H 0 rfl rfl rfl rfl rfl rfl rfl nofun rfl ?_
  obtain ⟨x44, q44, h⟩ := bind_some h
  refine Ops.call (ys := [(.agg [(.v (.int .u32 x33.d0)), (.v (.int .u32 x33.d1)), (.v (.int .u32 x33.d2)), (.v (.int .u32 x33.d3)), (.v (.int .u32 x33.d4)), (.v (.int .u32 x33.d5)), (.v (.int .u32 x33.d6)), (.v (.int .u32 x33.d7)), (.v (.int .u32 x33.d8))]), (.agg [(.v (.int .u32 0)), (.v (.int .u32 0)), (.v (.int .u32 0)), (.v (.int .u32 (x34.tmod 65536))), (.v (.int .u32 (x36.tmod 65536))), (.v (.int .u32 (x38.tmod 65536))), (.v (.int .u32 (x40.tmod 65536))), (.v (.int .u32 (x42.tmod 65536))), (.v (.int .u32 0))])]) (r := (.agg [(.v (.int .u32 x44.d0)), (.v (.int .u32 x44.d1)), (.v (.int .u32 x44.d2)), (.v (.int .u32 x44.d3)), (.v (.int .u32 x44.d4)), (.v (.int .u32 x44.d5)), (.v (.int .u32 x44.d6)), (.v (.int .u32 x44.d7)), (.v (.int .u32 x44.d8))])) rfl (epactref01_more_fn q44) rfl ?_
  refine Ops.fieldAddrH (off := 0) (fo := 1) H 4 rfl rfl rfl rfl rfl nofun rfl ?_
  refine Ops.storeH (off := 1) (v := (.agg [(.v (.int .u32 x44.d0)), (.v (.int .u32 x44.d1)), (.v (.int .u32 x44.d2)), (.v (.int .u32 x44.d3)), (.v (.int .u32 x44.d4)), (.v (.int .u32 x44.d5)), (.v (.int .u32 x44.d6)), (.v (.int .u32 x44.d7)), (.v (.int .u32 x44.d8))])) (ys := [(.v (.int .u32 x44.d0)), (.v (.int .u32 x44.d1)), (.v (.int .u32 x44.d2)), (.v (.int .u32 x44.d3)), (.v (.int .u32 x44.d4)), (.v (.int .u32 x44.d5)), (.v (.int .u32 x44.d6)), (.v (.int .u32 x44.d7)), (.v (.int .u32 x44.d8))]) (cells' := [(.v (.bool (a.minus != b.minus))), (.v (.int .u32 x44.d0)), (.v (.int .u32 x44.d1)), (.v (.int .u32 x44.d2)), (.v (.int .u32 x44.d3)), (.v (.int .u32 x44.d4)), (.v (.int .u32 x44.d5)), (.v (.int .u32 x44.d6)), (.v (.int .u32 x44.d7)), (.v (.int .u32 x44.d8))]) H 4 rfl rfl rfl rfl rfl rfl rfl rfl rfl nofun ?_; intro σ H
  apply Ops.nil
  replace H := H.all
  refine Runs.regionH 3 rfl H ?_; intro b131 σ H
  refine Ops.move (v := (.v (.int .i64 3))) rfl rfl ?_
  refine Ops.int (m := 3) (m' := 1) (r := .int .i64 4) rfl rfl rfl rfl rfl ?_
  refine Ops.assign (v := (.v (.int .i64 4))) rfl rfl ?_
  apply Ops.nil
  replace H := H.all
  apply Runs.again
  apply Runs.then
  apply Runs.then
  refine Runs.regionH 2 rfl H ?_; intro b132 σ H
  refine Ops.move (v := (.v (.int .i64 4))) rfl rfl ?_
  refine Ops.int (m := 4) (m' := 4) (r := .bool false) rfl rfl rfl rfl rfl ?_
  apply Ops.nil
  replace H := H.all
  refine Runs.no rfl ?_
  apply Runs.exit
  apply Runs.then
  refine Runs.regionH 2 rfl H ?_; intro b133 σ H
  refine Ops.loadHA (off := 0) (cs := [(.v (.bool (a.minus != b.minus))), (.v (.int .u32 x44.d0)), (.v (.int .u32 x44.d1)), (.v (.int .u32 x44.d2)), (.v (.int .u32 x44.d3)), (.v (.int .u32 x44.d4)), (.v (.int .u32 x44.d5)), (.v (.int .u32 x44.d6)), (.v (.int .u32 x44.d7)), (.v (.int .u32 x44.d8))]) H 4 rfl rfl rfl rfl rfl rfl rfl nofun rfl ?_
  refine Ops.storeH (off := 0) (v := (.agg [(.v (.bool (a.minus != b.minus))), (.v (.int .u32 x44.d0)), (.v (.int .u32 x44.d1)), (.v (.int .u32 x44.d2)), (.v (.int .u32 x44.d3)), (.v (.int .u32 x44.d4)), (.v (.int .u32 x44.d5)), (.v (.int .u32 x44.d6)), (.v (.int .u32 x44.d7)), (.v (.int .u32 x44.d8))])) (ys := [(.v (.bool (a.minus != b.minus))), (.v (.int .u32 x44.d0)), (.v (.int .u32 x44.d1)), (.v (.int .u32 x44.d2)), (.v (.int .u32 x44.d3)), (.v (.int .u32 x44.d4)), (.v (.int .u32 x44.d5)), (.v (.int .u32 x44.d6)), (.v (.int .u32 x44.d7)), (.v (.int .u32 x44.d8))]) (cells' := [(.v (.bool (a.minus != b.minus))), (.v (.int .u32 x44.d0)), (.v (.int .u32 x44.d1)), (.v (.int .u32 x44.d2)), (.v (.int .u32 x44.d3)), (.v (.int .u32 x44.d4)), (.v (.int .u32 x44.d5)), (.v (.int .u32 x44.d6)), (.v (.int .u32 x44.d7)), (.v (.int .u32 x44.d8))]) H 5 rfl rfl rfl rfl rfl rfl rfl rfl rfl nofun ?_; intro σ H
  apply Ops.nil
  replace H := H.all
  apply Runs.ret
  replace h := Option.some.inj h; subst h
  exact (Ends.H (xs := [(.agg [(.v (.bool (a.minus != b.minus))), (.v (.int .u32 x44.d0)), (.v (.int .u32 x44.d1)), (.v (.int .u32 x44.d2)), (.v (.int .u32 x44.d3)), (.v (.int .u32 x44.d4)), (.v (.int .u32 x44.d5)), (.v (.int .u32 x44.d6)), (.v (.int .u32 x44.d7)), (.v (.int .u32 x44.d8))])]) (.inr rfl) H (.agg (cs := [(.v (.bool (a.minus != b.minus))), (.v (.int .u32 x44.d0)), (.v (.int .u32 x44.d1)), (.v (.int .u32 x44.d2)), (.v (.int .u32 x44.d3)), (.v (.int .u32 x44.d4)), (.v (.int .u32 x44.d5)), (.v (.int .u32 x44.d6)), (.v (.int .u32 x44.d7)), (.v (.int .u32 x44.d8))]) (off := 0) 5 rfl rfl rfl rfl rfl rfl rfl .nil) (.one (.p rfl)))

set_option maxRecDepth 100000 in
set_option maxHeartbeats 4000000 in
theorem epactref01_Mul_fn {a : Int} {b : Int} {r : Int × Int} (h : epactref01_Mul a b = some r) : Fn CX 23 [(.v (.int .i64 a)), (.v (.int .i64 b))] (.tup [(.v (.int .i64 r.1)), (.v (.int .i64 r.2))]) := by
  refine Fn.ends Try.func23 rfl rfl rfl rfl rfl rfl ?_
  have H : Hs (⟨0, fun _ => .none⟩ : Heap) [] := Has.nil (Nat.le_refl _)
  generalize (⟨0, fun _ => .none⟩ : Heap) = σ at H ⊢
  unfold epactref01_Mul at h
  apply Runs.then
  refine Runs.regionH 2 rfl H ?_; intro b1 σ H
  refine Ops.assign (v := (.v (.int .i64 0))) rfl rfl ?_
  refine Ops.assign (v := (.v (.int .i64 0))) rfl rfl ?_
  apply Ops.nil
  replace H := H.all
  apply Runs.then
  refine Runs.regionH 10 rfl H ?_; intro b2 σ H
  refine Ops.move (v := (.v (.int .i64 a))) rfl rfl ?_
  obtain ⟨x1, q1, h⟩ := bind_some h
  refine Ops.call (ys := [(.v (.int .i64 a))]) (r := (.agg [(.v (.bool x1.minus)), (.v (.int .u32 x1.digits.d0)), (.v (.int .u32 x1.digits.d1)), (.v (.int .u32 x1.digits.d2)), (.v (.int .u32 x1.digits.d3)), (.v (.int .u32 x1.digits.d4)), (.v (.int .u32 x1.digits.d5)), (.v (.int .u32 x1.digits.d6)), (.v (.int .u32 x1.digits.d7)), (.v (.int .u32 x1.digits.d8))])) rfl (epactref01_of_fn q1) rfl ?_
  refine Ops.move (v := (.v (.int .i64 b))) rfl rfl ?_
  obtain ⟨x2, q2, h⟩ := bind_some h
  refine Ops.call (ys := [(.v (.int .i64 b))]) (r := (.agg [(.v (.bool x2.minus)), (.v (.int .u32 x2.digits.d0)), (.v (.int .u32 x2.digits.d1)), (.v (.int .u32 x2.digits.d2)), (.v (.int .u32 x2.digits.d3)), (.v (.int .u32 x2.digits.d4)), (.v (.int .u32 x2.digits.d5)), (.v (.int .u32 x2.digits.d6)), (.v (.int .u32 x2.digits.d7)), (.v (.int .u32 x2.digits.d8))])) rfl (epactref01_of_fn q2) rfl ?_
  obtain ⟨x3, q3, h⟩ := bind_some h
  refine Ops.call (ys := [(.agg [(.v (.bool x1.minus)), (.v (.int .u32 x1.digits.d0)), (.v (.int .u32 x1.digits.d1)), (.v (.int .u32 x1.digits.d2)), (.v (.int .u32 x1.digits.d3)), (.v (.int .u32 x1.digits.d4)), (.v (.int .u32 x1.digits.d5)), (.v (.int .u32 x1.digits.d6)), (.v (.int .u32 x1.digits.d7)), (.v (.int .u32 x1.digits.d8))]), (.agg [(.v (.bool x2.minus)), (.v (.int .u32 x2.digits.d0)), (.v (.int .u32 x2.digits.d1)), (.v (.int .u32 x2.digits.d2)), (.v (.int .u32 x2.digits.d3)), (.v (.int .u32 x2.digits.d4)), (.v (.int .u32 x2.digits.d5)), (.v (.int .u32 x2.digits.d6)), (.v (.int .u32 x2.digits.d7)), (.v (.int .u32 x2.digits.d8))])]) (r := (.agg [(.v (.bool x3.minus)), (.v (.int .u32 x3.digits.d0)), (.v (.int .u32 x3.digits.d1)), (.v (.int .u32 x3.digits.d2)), (.v (.int .u32 x3.digits.d3)), (.v (.int .u32 x3.digits.d4)), (.v (.int .u32 x3.digits.d5)), (.v (.int .u32 x3.digits.d6)), (.v (.int .u32 x3.digits.d7)), (.v (.int .u32 x3.digits.d8))])) rfl (epactref01_product_fn q3) rfl ?_
  obtain ⟨x4, q4, h⟩ := bind_some h
  refine Ops.call (ys := [(.agg [(.v (.bool x3.minus)), (.v (.int .u32 x3.digits.d0)), (.v (.int .u32 x3.digits.d1)), (.v (.int .u32 x3.digits.d2)), (.v (.int .u32 x3.digits.d3)), (.v (.int .u32 x3.digits.d4)), (.v (.int .u32 x3.digits.d5)), (.v (.int .u32 x3.digits.d6)), (.v (.int .u32 x3.digits.d7)), (.v (.int .u32 x3.digits.d8))])]) (r := (.tup [(.v (.int .i64 x4.1)), (.v (.int .i64 x4.2))])) rfl (epactref01_number_fn q4) rfl ?_
  refine Ops.extract (v := (.v (.int .i64 x4.1))) rfl rfl rfl ?_
  refine Ops.extract (v := (.v (.int .i64 x4.2))) rfl rfl rfl ?_
  refine Ops.assign (v := (.v (.int .i64 x4.1))) rfl rfl ?_
  refine Ops.assign (v := (.v (.int .i64 x4.2))) rfl rfl ?_
  apply Ops.nil
  replace H := H.all
  apply Runs.ret
  replace h := Option.some.inj h; subst h
  exact (Ends.H (xs := [(.v (.int .i64 x4.1)), (.v (.int .i64 x4.2))]) (.inr rfl) H (.tmp (v := (.v (.int .i64 x4.1))) rfl (.tmp (v := (.v (.int .i64 x4.2))) rfl .nil)) (.two (.cons (.c (.v _)) (.cons (.c (.v _)) .nil))))

set_option maxRecDepth 100000 in
set_option maxHeartbeats 4000000 in
theorem safe_Floor_fn {a : Int} {b : Int} {r : Int × Int × Int} (h : safe_Floor a b = some r) : Fn CX 14 [(.v (.int .i64 a)), (.v (.int .i64 b))] (.tup [(.v (.int .i64 r.1)), (.v (.int .i64 r.2.1)), (.v (.int .i64 r.2.2))]) := by
  refine Fn.ends Try.func14 rfl rfl rfl rfl rfl rfl ?_
  have H : Hs (⟨0, fun _ => .none⟩ : Heap) [] := Has.nil (Nat.le_refl _)
  generalize (⟨0, fun _ => .none⟩ : Heap) = σ at H ⊢
  unfold safe_Floor at h
  apply Runs.then
  refine Runs.regionH 3 rfl H ?_; intro b1 σ H
  refine Ops.assign (v := (.v (.int .i64 0))) rfl rfl ?_
  refine Ops.assign (v := (.v (.int .i64 0))) rfl rfl ?_
  refine Ops.assign (v := (.v (.int .i64 0))) rfl rfl ?_
  apply Ops.nil
  replace H := H.all
  apply Runs.then
  apply Runs.inBlock
  apply Runs.then
  refine Runs.regionH 3 rfl H ?_; intro b2 σ H
  refine Ops.move (v := (.v (.int .i64 b))) rfl rfl ?_
  refine Ops.int (m := b) (m' := 0) (r := .bool (b == 0)) rfl rfl rfl rfl rfl ?_
  refine Ops.assign (v := (.v (.bool (b == 0)))) rfl rfl ?_
  apply Ops.nil
  replace H := H.all
  refine Runs.whether (v := (b == 0)) rfl ?_ ?_ <;> intro hc1
  · replace h := cond_T hc1 h
    apply Runs.then
    refine Runs.regionH 3 rfl H ?_; intro b3 σ H
    refine Ops.assign (v := (.v (.int .i64 0))) rfl rfl ?_
    refine Ops.assign (v := (.v (.int .i64 0))) rfl rfl ?_
    refine Ops.assign (v := (.v (.int .i64 11))) rfl rfl ?_
    apply Ops.nil
    replace H := H.all
    apply Runs.ret
    replace h := Option.some.inj h; subst h
    exact (Ends.H (xs := [(.v (.int .i64 0)), (.v (.int .i64 0)), (.v (.int .i64 11))]) (.inr rfl) H (.tmp (v := (.v (.int .i64 0))) rfl (.tmp (v := (.v (.int .i64 0))) rfl (.tmp (v := (.v (.int .i64 11))) rfl .nil))) (.two (.cons (.c (.v _)) (.cons (.c (.v _)) (.cons (.c (.v _)) .nil)))))
  · replace h := cond_F hc1 h
    apply Runs.then
    refine Runs.regionH 7 rfl H ?_; intro b4 σ H
    refine Ops.move (v := (.v (.int .i64 b))) rfl rfl ?_
    refine Ops.int (m := b) (m' := (-1)) (r := .bool (b == (-1))) rfl rfl rfl rfl rfl ?_
    refine Ops.move (v := (.v (.bool (b == (-1))))) rfl rfl ?_
    refine Ops.mid 3 (K1 := fun e σ => EnvHas e [(18, (.v (.bool ((b == (-1)) && (a == (-9223372036854775808)))))), (0, (.v (.int .i64 a))), (1, (.v (.int .i64 b)))] ∧ Has σ (b4 + 6) (b4 + 7) []) rfl ?_ ?_
    · refine Ops.split rfl rfl ?_ ?_ <;> intro hc2
      · skip
        refine Ops.wanted rfl rfl ?_
        refine Ops.move (v := (.v (.int .i64 a))) rfl rfl ?_
        refine Ops.wanted rfl rfl ?_
        refine Ops.int (m := a) (m' := (-9223372036854775808)) (r := .bool (a == (-9223372036854775808))) rfl rfl rfl rfl rfl ?_
        refine Ops.pickT (v := (.v (.bool (a == (-9223372036854775808))))) rfl rfl rfl ?_
        apply Ops.nil
        exact ⟨⟨and_T hc2, rfl, rfl, trivial⟩, H.weak (by omega) (Nat.le_refl _)⟩
      · skip
        refine Ops.pass rfl rfl rfl ?_
        refine Ops.pass rfl rfl rfl ?_
        refine Ops.pickF (v := (.v (.bool false))) rfl rfl rfl ?_
        apply Ops.nil
        exact ⟨⟨and_F hc2, rfl, rfl, trivial⟩, H.weak (by omega) (Nat.le_refl _)⟩
    · rintro e σ ⟨he, H⟩
      obtain ⟨e, rfl⟩ := he.ex
      refine Ops.assign (v := (.v (.bool ((b == (-1)) && (a == (-9223372036854775808)))))) rfl rfl ?_
      apply Ops.nil
      replace H := H.all
      refine Runs.whether (v := ((b == (-1)) && (a == (-9223372036854775808)))) rfl ?_ ?_ <;> intro hc3
      · replace h := cond_T hc3 h
        apply Runs.then
        refine Runs.regionH 3 rfl H ?_; intro b5 σ H
        refine Ops.assign (v := (.v (.int .i64 0))) rfl rfl ?_
        refine Ops.assign (v := (.v (.int .i64 0))) rfl rfl ?_
        refine Ops.assign (v := (.v (.int .i64 10))) rfl rfl ?_
        apply Ops.nil
        replace H := H.all
        apply Runs.ret
        replace h := Option.some.inj h; subst h
        exact (Ends.H (xs := [(.v (.int .i64 0)), (.v (.int .i64 0)), (.v (.int .i64 10))]) (.inr rfl) H (.tmp (v := (.v (.int .i64 0))) rfl (.tmp (v := (.v (.int .i64 0))) rfl (.tmp (v := (.v (.int .i64 10))) rfl .nil))) (.two (.cons (.c (.v _)) (.cons (.c (.v _)) (.cons (.c (.v _)) .nil)))))
      · replace h := cond_F hc3 h
        apply Runs.skip
        apply Runs.then
        refine Runs.drawnH 8 rfl (by kernel_rfl) H ?_; intro b6 σ H B6
        refine Ops.move (v := (.v (.int .i64 a))) rfl rfl ?_
        refine Ops.move (v := (.v (.int .i64 b))) rfl rfl ?_
        obtain ⟨u1, q1, h⟩ := bind_some h
        refine Ops.quo (m := a) (m' := b) rfl rfl (nz_ne q1) rfl ?_
        refine Ops.move (v := (.v (.int .i64 a))) rfl rfl ?_
        refine Ops.move (v := (.v (.int .i64 b))) rfl rfl ?_
        obtain ⟨u2, q2, h⟩ := bind_some h
        refine Ops.rem (m := a) (m' := b) rfl rfl (nz_ne q2) rfl ?_
        refine Ops.assign (v := (.v (.int .i64 (w64 (a.tdiv b))))) rfl rfl ?_
        refine Ops.assign (v := (.v (.int .i64 (a.tmod b)))) rfl rfl ?_
        apply Ops.nil
        replace H := H.all
        apply Runs.then
        obtain ⟨y1, hj1, h⟩ := bind_some h
        refine Runs.mono (Q := fun x e σ => x = .normal ∧ EnvHas e [(7, (.v (.int .i64 y1.1))), (8, (.v (.int .i64 y1.2)))] ∧ Hs σ []) ?_ ?_
        · replace h := hj1
          apply Runs.then
          refine Runs.regionH 9 rfl H ?_; intro b7 σ H
          refine Ops.move (v := (.v (.int .i64 (a.tmod b)))) rfl rfl ?_
          refine Ops.int (m := (a.tmod b)) (m' := 0) (r := .bool ((a.tmod b) != 0)) rfl rfl rfl rfl rfl ?_
          refine Ops.move (v := (.v (.bool ((a.tmod b) != 0)))) rfl rfl ?_
          refine Ops.mid 6 (K1 := fun e σ => EnvHas e [(33, (.v (.bool (((a.tmod b) != 0) && ((decide ((a.tmod b) < 0)) != (decide (b < 0))))))), (1, (.v (.int .i64 b))), (7, (.v (.int .i64 (w64 (a.tdiv b))))), (8, (.v (.int .i64 (a.tmod b))))] ∧ Has σ (b7 + 9) (b7 + 9) []) rfl ?_ ?_
          · refine Ops.split rfl rfl ?_ ?_ <;> intro hc4
            · skip
              refine Ops.wanted rfl rfl ?_
              refine Ops.move (v := (.v (.int .i64 (a.tmod b)))) rfl rfl ?_
              refine Ops.wanted rfl rfl ?_
              refine Ops.int (m := (a.tmod b)) (m' := 0) (r := .bool (decide ((a.tmod b) < 0))) rfl rfl rfl rfl rfl ?_
              refine Ops.wanted rfl rfl ?_
              refine Ops.move (v := (.v (.int .i64 b))) rfl rfl ?_
              refine Ops.wanted rfl rfl ?_
              refine Ops.int (m := b) (m' := 0) (r := .bool (decide (b < 0))) rfl rfl rfl rfl rfl ?_
              refine Ops.wanted rfl rfl ?_
              refine Ops.neB (b := (decide ((a.tmod b) < 0))) (b' := (decide (b < 0))) rfl rfl rfl rfl ?_
              refine Ops.pickT (v := (.v (.bool ((decide ((a.tmod b) < 0)) != (decide (b < 0)))))) rfl rfl rfl ?_
              apply Ops.nil
              exact ⟨⟨and_T hc4, rfl, rfl, rfl, trivial⟩, H.weak (by omega) (Nat.le_refl _)⟩
            · skip
              refine Ops.pass rfl rfl rfl ?_
              refine Ops.pass rfl rfl rfl ?_
              refine Ops.pass rfl rfl rfl ?_
              refine Ops.pass rfl rfl rfl ?_
              refine Ops.pass rfl rfl rfl ?_
              refine Ops.pickF (v := (.v (.bool false))) rfl rfl rfl ?_
              apply Ops.nil
              exact ⟨⟨and_F hc4, rfl, rfl, rfl, trivial⟩, H.weak (by omega) (Nat.le_refl _)⟩
          · rintro e σ ⟨he, H⟩
            obtain ⟨e, rfl⟩ := he.ex
            apply Ops.nil
            replace H := H.all
            refine Runs.whether (v := (((a.tmod b) != 0) && ((decide ((a.tmod b) < 0)) != (decide (b < 0))))) rfl ?_ ?_ <;> intro hc5
            · replace h := cond_T hc5 h
              refine Runs.regionH 7 rfl H ?_; intro b8 σ H
              refine Ops.move (v := (.v (.int .i64 (w64 (a.tdiv b))))) rfl rfl ?_
              refine Ops.int (m := (w64 (a.tdiv b))) (m' := 1) (r := .int .i64 (w64 ((w64 (a.tdiv b)) - 1))) rfl rfl rfl rfl rfl ?_
              refine Ops.move (v := (.v (.int .i64 (a.tmod b)))) rfl rfl ?_
              refine Ops.move (v := (.v (.int .i64 b))) rfl rfl ?_
              refine Ops.int (m := (a.tmod b)) (m' := b) (r := .int .i64 (w64 ((a.tmod b) + b))) rfl rfl rfl rfl rfl ?_
              refine Ops.assign (v := (.v (.int .i64 (w64 ((w64 (a.tdiv b)) - 1))))) rfl rfl ?_
              refine Ops.assign (v := (.v (.int .i64 (w64 ((a.tmod b) + b))))) rfl rfl ?_
              apply Ops.nil
              replace H := H.all
              replace h := Option.some.inj h; subst h
              exact ⟨rfl, ⟨rfl, rfl, trivial⟩, H⟩
            · replace h := cond_F hc5 h
              apply Runs.skip
              replace h := Option.some.inj h; subst h
              exact ⟨rfl, ⟨rfl, rfl, trivial⟩, H⟩
        · rintro x e σ ⟨rfl, he, H⟩
          obtain ⟨e, rfl⟩ := he.ex
          apply Runs.then
          refine Runs.regionH 5 rfl H ?_; intro b9 σ H
          refine Ops.move (v := (.v (.int .i64 y1.1))) rfl rfl ?_
          refine Ops.move (v := (.v (.int .i64 y1.2))) rfl rfl ?_
          refine Ops.assign (v := (.v (.int .i64 y1.1))) rfl rfl ?_
          refine Ops.assign (v := (.v (.int .i64 y1.2))) rfl rfl ?_
          refine Ops.assign (v := (.v (.int .i64 0))) rfl rfl ?_
          apply Ops.nil
          replace H := H.all
          apply Runs.ret
          replace h := Option.some.inj h; subst h
          exact (Ends.H (xs := [(.v (.int .i64 y1.1)), (.v (.int .i64 y1.2)), (.v (.int .i64 0))]) (.inr rfl) H (.tmp (v := (.v (.int .i64 y1.1))) rfl (.tmp (v := (.v (.int .i64 y1.2))) rfl (.tmp (v := (.v (.int .i64 0))) rfl .nil))) (.two (.cons (.c (.v _)) (.cons (.c (.v _)) (.cons (.c (.v _)) .nil)))))

end Go.Dn

set_option linter.unusedVariables false
set_option linter.unusedSimpArgs false
namespace Go.Dn
open Go Go.Proofs

set_option maxRecDepth 100000 in
set_option maxHeartbeats 4000000 in
theorem epactref01_Floor_fn {a : Int} {b : Int} {r : Int × Int × Int} (h : epactref01_Floor a b = some r) : Fn CX 24 [(.v (.int .i64 a)), (.v (.int .i64 b))] (.tup [(.v (.int .i64 r.1)), (.v (.int .i64 r.2.1)), (.v (.int .i64 r.2.2))]) := by
  refine Fn.ends Try.func24 rfl rfl rfl rfl rfl rfl ?_
  have H : Hs (⟨0, fun _ => .none⟩ : Heap) [] := Has.nil (Nat.le_refl _)
  generalize (⟨0, fun _ => .none⟩ : Heap) = σ at H ⊢
  unfold epactref01_Floor at h
  apply Runs.then
  refine Runs.regionH 3 rfl H ?_; intro b1 σ H
  refine Ops.assign (v := (.v (.int .i64 0))) rfl rfl ?_
  refine Ops.assign (v := (.v (.int .i64 0))) rfl rfl ?_
  refine Ops.assign (v := (.v (.int .i64 0))) rfl rfl ?_
  apply Ops.nil
  replace H := H.all
  apply Runs.then
  apply Runs.then
  refine Runs.regionH 2 rfl H ?_; intro b2 σ H
  refine Ops.move (v := (.v (.int .i64 b))) rfl rfl ?_
  refine Ops.int (m := b) (m' := 0) (r := .bool (b == 0)) rfl rfl rfl rfl rfl ?_
  apply Ops.nil
  replace H := H.all
  refine Runs.whether (v := (b == 0)) rfl ?_ ?_ <;> intro hc1
  · replace h := cond_T hc1 h
    apply Runs.then
    refine Runs.regionH 3 rfl H ?_; intro b3 σ H
    refine Ops.assign (v := (.v (.int .i64 0))) rfl rfl ?_
    refine Ops.assign (v := (.v (.int .i64 0))) rfl rfl ?_
    refine Ops.assign (v := (.v (.int .i64 11))) rfl rfl ?_
    apply Ops.nil
    replace H := H.all
    apply Runs.ret
    replace h := Option.some.inj h; subst h
    exact (Ends.H (xs := [(.v (.int .i64 0)), (.v (.int .i64 0)), (.v (.int .i64 11))]) (.inr rfl) H (.tmp (v := (.v (.int .i64 0))) rfl (.tmp (v := (.v (.int .i64 0))) rfl (.tmp (v := (.v (.int .i64 11))) rfl .nil))) (.two (.cons (.c (.v _)) (.cons (.c (.v _)) (.cons (.c (.v _)) .nil)))))
  · replace h := cond_F hc1 h
    apply Runs.skip
    apply Runs.then
    apply Runs.then
    refine Runs.regionH 2 rfl H ?_; intro b4 σ H
    refine Ops.move (v := (.v (.int .i64 b))) rfl rfl ?_
    refine Ops.int (m := b) (m' := (-1)) (r := .bool (b == (-1))) rfl rfl rfl rfl rfl ?_
    apply Ops.nil
    replace H := H.all
    refine Runs.whether (v := (b == (-1))) rfl ?_ ?_ <;> intro hc2
    · replace h := cond_T hc2 h
      apply Runs.then
      refine Runs.regionH 7 rfl H ?_; intro b5 σ H
      refine Ops.move (v := (.v (.int .i64 a))) rfl rfl ?_
      obtain ⟨x1, q1, h⟩ := bind_some h
      refine Ops.call (ys := [(.v (.int .i64 0)), (.v (.int .i64 a))]) (r := (.tup [(.v (.int .i64 x1.1)), (.v (.int .i64 x1.2))])) rfl (epactref01_Sub_fn q1) rfl ?_
      refine Ops.move (v := (.tup [(.v (.int .i64 x1.1)), (.v (.int .i64 x1.2))])) rfl rfl ?_
      refine Ops.extract (v := (.v (.int .i64 x1.1))) rfl rfl rfl ?_
      refine Ops.extract (v := (.v (.int .i64 x1.2))) rfl rfl rfl ?_
      refine Ops.assign (v := (.v (.int .i64 x1.1))) rfl rfl ?_
      refine Ops.assign (v := (.v (.int .i64 x1.2))) rfl rfl ?_
      apply Ops.nil
      replace H := H.all
      apply Runs.then
      refine Runs.regionH 5 rfl H ?_; intro b6 σ H
      refine Ops.move (v := (.v (.int .i64 x1.1))) rfl rfl ?_
      refine Ops.move (v := (.v (.int .i64 x1.2))) rfl rfl ?_
      refine Ops.assign (v := (.v (.int .i64 x1.1))) rfl rfl ?_
      refine Ops.assign (v := (.v (.int .i64 0))) rfl rfl ?_
      refine Ops.assign (v := (.v (.int .i64 x1.2))) rfl rfl ?_
      apply Ops.nil
      replace H := H.all
      apply Runs.ret
      replace h := Option.some.inj h; subst h
      exact (Ends.H (xs := [(.v (.int .i64 x1.1)), (.v (.int .i64 0)), (.v (.int .i64 x1.2))]) (.inr rfl) H (.tmp (v := (.v (.int .i64 x1.1))) rfl (.tmp (v := (.v (.int .i64 0))) rfl (.tmp (v := (.v (.int .i64 x1.2))) rfl .nil))) (.two (.cons (.c (.v _)) (.cons (.c (.v _)) (.cons (.c (.v _)) .nil)))))
    · replace h := cond_F hc2 h
      apply Runs.skip
      apply Runs.then
      refine Runs.regionH 4 rfl H ?_; intro b7 σ H
      refine Ops.move (v := (.v (.int .i64 a))) rfl rfl ?_
      refine Ops.move (v := (.v (.int .i64 b))) rfl rfl ?_
      obtain ⟨u1, q2, h⟩ := bind_some h
      refine Ops.quo (m := a) (m' := b) rfl rfl (nz_ne q2) rfl ?_
      refine Ops.assign (v := (.v (.int .i64 (w64 (a.tdiv b))))) rfl rfl ?_
      apply Ops.nil
      replace H := H.all
      apply Runs.then
      refine Runs.regionH 6 rfl H ?_; intro b8 σ H
      refine Ops.move (v := (.v (.int .i64 a))) rfl rfl ?_
      refine Ops.move (v := (.v (.int .i64 (w64 (a.tdiv b))))) rfl rfl ?_
      refine Ops.move (v := (.v (.int .i64 b))) rfl rfl ?_
      refine Ops.int (m := (w64 (a.tdiv b))) (m' := b) (r := .int .i64 (w64 ((w64 (a.tdiv b)) * b))) rfl rfl rfl rfl rfl ?_
      refine Ops.int (m := a) (m' := (w64 ((w64 (a.tdiv b)) * b))) (r := .int .i64 (w64 (a - (w64 ((w64 (a.tdiv b)) * b))))) rfl rfl rfl rfl rfl ?_
      obtain ⟨x2, q3, h⟩ := bind_some h
      refine Ops.assign (v := (.v (.int .i64 x2))) (by rw [← Option.some.inj q3]; rfl) rfl ?_
      apply Ops.nil
      replace H := H.all
      apply Runs.then
      apply Runs.then
      refine Runs.regionH 1 rfl H ?_; intro b9 σ H
      refine Ops.assign (v := (.v (.int .i64 0))) rfl rfl ?_
      apply Ops.nil
      replace H := H.all
      apply Runs.inBlock
      apply Runs.again
      apply Runs.then
      apply Runs.then
      refine Runs.regionH 2 rfl H ?_; intro b10 σ H
      refine Ops.move (v := (.v (.int .i64 0))) rfl rfl ?_
      refine Ops.int (m := 0) (m' := 2) (r := .bool true) rfl rfl rfl rfl rfl ?_
      apply Ops.nil
      replace H := H.all
      refine Runs.yes rfl ?_
      apply Runs.skip
      apply Runs.then
      apply Runs.inBlock
      apply Runs.then
      refine Runs.regionH 10 rfl H ?_; intro b11 σ H
      refine Ops.move (v := (.v (.int .i64 (w64 (a.tdiv b))))) rfl rfl ?_
      obtain ⟨x3, q4, h⟩ := bind_some h
      refine Ops.call (ys := [(.v (.int .i64 (w64 (a.tdiv b))))]) (r := (.agg [(.v (.bool x3.minus)), (.v (.int .u32 x3.digits.d0)), (.v (.int .u32 x3.digits.d1)), (.v (.int .u32 x3.digits.d2)), (.v (.int .u32 x3.digits.d3)), (.v (.int .u32 x3.digits.d4)), (.v (.int .u32 x3.digits.d5)), (.v (.int .u32 x3.digits.d6)), (.v (.int .u32 x3.digits.d7)), (.v (.int .u32 x3.digits.d8))])) rfl (epactref01_of_fn q4) rfl ?_
      refine Ops.move (v := (.v (.int .i64 b))) rfl rfl ?_
      obtain ⟨x4, q5, h⟩ := bind_some h
      refine Ops.call (ys := [(.v (.int .i64 b))]) (r := (.agg [(.v (.bool x4.minus)), (.v (.int .u32 x4.digits.d0)), (.v (.int .u32 x4.digits.d1)), (.v (.int .u32 x4.digits.d2)), (.v (.int .u32 x4.digits.d3)), (.v (.int .u32 x4.digits.d4)), (.v (.int .u32 x4.digits.d5)), (.v (.int .u32 x4.digits.d6)), (.v (.int .u32 x4.digits.d7)), (.v (.int .u32 x4.digits.d8))])) rfl (epactref01_of_fn q5) rfl ?_
      obtain ⟨x5, q6, h⟩ := bind_some h
      refine Ops.call (ys := [(.agg [(.v (.bool x3.minus)), (.v (.int .u32 x3.digits.d0)), (.v (.int .u32 x3.digits.d1)), (.v (.int .u32 x3.digits.d2)), (.v (.int .u32 x3.digits.d3)), (.v (.int .u32 x3.digits.d4)), (.v (.int .u32 x3.digits.d5)), (.v (.int .u32 x3.digits.d6)), (.v (.int .u32 x3.digits.d7)), (.v (.int .u32 x3.digits.d8))]), (.agg [(.v (.bool x4.minus)), (.v (.int .u32 x4.digits.d0)), (.v (.int .u32 x4.digits.d1)), (.v (.int .u32 x4.digits.d2)), (.v (.int .u32 x4.digits.d3)), (.v (.int .u32 x4.digits.d4)), (.v (.int .u32 x4.digits.d5)), (.v (.int .u32 x4.digits.d6)), (.v (.int .u32 x4.digits.d7)), (.v (.int .u32 x4.digits.d8))])]) (r := (.agg [(.v (.bool x5.minus)), (.v (.int .u32 x5.digits.d0)), (.v (.int .u32 x5.digits.d1)), (.v (.int .u32 x5.digits.d2)), (.v (.int .u32 x5.digits.d3)), (.v (.int .u32 x5.digits.d4)), (.v (.int .u32 x5.digits.d5)), (.v (.int .u32 x5.digits.d6)), (.v (.int .u32 x5.digits.d7)), (.v (.int .u32 x5.digits.d8))])) rfl (epactref01_product_fn q6) rfl ?_
      refine Ops.move (v := (.v (.int .i64 x2))) rfl rfl ?_
      obtain ⟨x6, q7, h⟩ := bind_some h
      refine Ops.call (ys := [(.v (.int .i64 x2))]) (r := (.agg [(.v (.bool x6.minus)), (.v (.int .u32 x6.digits.d0)), (.v (.int .u32 x6.digits.d1)), (.v (.int .u32 x6.digits.d2)), (.v (.int .u32 x6.digits.d3)), (.v (.int .u32 x6.digits.d4)), (.v (.int .u32 x6.digits.d5)), (.v (.int .u32 x6.digits.d6)), (.v (.int .u32 x6.digits.d7)), (.v (.int .u32 x6.digits.d8))])) rfl (epactref01_of_fn q7) rfl ?_
      obtain ⟨x7, q8, h⟩ := bind_some h
      refine Ops.call (ys := [(.agg [(.v (.bool x5.minus)), (.v (.int .u32 x5.digits.d0)), (.v (.int .u32 x5.digits.d1)), (.v (.int .u32 x5.digits.d2)), (.v (.int .u32 x5.digits.d3)), (.v (.int .u32 x5.digits.d4)), (.v (.int .u32 x5.digits.d5)), (.v (.int .u32 x5.digits.d6)), (.v (.int .u32 x5.digits.d7)), (.v (.int .u32 x5.digits.d8))]), (.agg [(.v (.bool x6.minus)), (.v (.int .u32 x6.digits.d0)), (.v (.int .u32 x6.digits.d1)), (.v (.int .u32 x6.digits.d2)), (.v (.int .u32 x6.digits.d3)), (.v (.int .u32 x6.digits.d4)), (.v (.int .u32 x6.digits.d5)), (.v (.int .u32 x6.digits.d6)), (.v (.int .u32 x6.digits.d7)), (.v (.int .u32 x6.digits.d8))])]) (r := (.agg [(.v (.bool x7.minus)), (.v (.int .u32 x7.digits.d0)), (.v (.int .u32 x7.digits.d1)), (.v (.int .u32 x7.digits.d2)), (.v (.int .u32 x7.digits.d3)), (.v (.int .u32 x7.digits.d4)), (.v (.int .u32 x7.digits.d5)), (.v (.int .u32 x7.digits.d6)), (.v (.int .u32 x7.digits.d7)), (.v (.int .u32 x7.digits.d8))])) rfl (epactref01_sum_fn q8) rfl ?_
      refine Ops.allocH (cs := [(.v (.bool false)), (.v (.int .u32 0)), (.v (.int .u32 0)), (.v (.int .u32 0)), (.v (.int .u32 0)), (.v (.int .u32 0)), (.v (.int .u32 0)), (.v (.int .u32 0)), (.v (.int .u32 0)), (.v (.int .u32 0))]) H (by omega) (by omega) rfl rfl ?_; intro σ H
      refine Ops.storeH (off := 0) (v := (.agg [(.v (.bool x7.minus)), (.v (.int .u32 x7.digits.d0)), (.v (.int .u32 x7.digits.d1)), (.v (.int .u32 x7.digits.d2)), (.v (.int .u32 x7.digits.d3)), (.v (.int .u32 x7.digits.d4)), (.v (.int .u32 x7.digits.d5)), (.v (.int .u32 x7.digits.d6)), (.v (.int .u32 x7.digits.d7)), (.v (.int .u32 x7.digits.d8))])) (ys := [(.v (.bool x7.minus)), (.v (.int .u32 x7.digits.d0)), (.v (.int .u32 x7.digits.d1)), (.v (.int .u32 x7.digits.d2)), (.v (.int .u32 x7.digits.d3)), (.v (.int .u32 x7.digits.d4)), (.v (.int .u32 x7.digits.d5)), (.v (.int .u32 x7.digits.d6)), (.v (.int .u32 x7.digits.d7)), (.v (.int .u32 x7.digits.d8))]) (cells' := [(.v (.bool x7.minus)), (.v (.int .u32 x7.digits.d0)), (.v (.int .u32 x7.digits.d1)), (.v (.int .u32 x7.digits.d2)), (.v (.int .u32 x7.digits.d3)), (.v (.int .u32 x7.digits.d4)), (.v (.int .u32 x7.digits.d5)), (.v (.int .u32 x7.digits.d6)), (.v (.int .u32 x7.digits.d7)), (.v (.int .u32 x7.digits.d8))]) H 0 rfl rfl rfl rfl rfl rfl rfl rfl rfl nofun ?_; intro σ H
      apply Ops.nil
      replace H := H.all
      apply Runs.then
      refine Runs.regionH 4 rfl H ?_; intro b12 σ H
      refine Ops.move (v := (.v (.int .i64 a))) rfl rfl ?_
      obtain ⟨x8, q9, h⟩ := bind_some h
      refine Ops.call (ys := [(.v (.int .i64 a))]) (r := (.agg [(.v (.bool x8.minus)), (.v (.int .u32 x8.digits.d0)), (.v (.int .u32 x8.digits.d1)), (.v (.int .u32 x8.digits.d2)), (.v (.int .u32 x8.digits.d3)), (.v (.int .u32 x8.digits.d4)), (.v (.int .u32 x8.digits.d5)), (.v (.int .u32 x8.digits.d6)), (.v (.int .u32 x8.digits.d7)), (.v (.int .u32 x8.digits.d8))])) rfl (epactref01_of_fn q9) rfl ?_
      refine Ops.allocH (cs := [(.v (.bool false)), (.v (.int .u32 0)), (.v (.int .u32 0)), (.v (.int .u32 0)), (.v (.int .u32 0)), (.v (.int .u32 0)), (.v (.int .u32 0)), (.v (.int .u32 0)), (.v (.int .u32 0)), (.v (.int .u32 0))]) H (by omega) (by omega) rfl rfl ?_; intro σ H
      refine Ops.storeH (off := 0) (v := (.agg [(.v (.bool x8.minus)), (.v (.int .u32 x8.digits.d0)), (.v (.int .u32 x8.digits.d1)), (.v (.int .u32 x8.digits.d2)), (.v (.int .u32 x8.digits.d3)), (.v (.int .u32 x8.digits.d4)), (.v (.int .u32 x8.digits.d5)), (.v (.int .u32 x8.digits.d6)), (.v (.int .u32 x8.digits.d7)), (.v (.int .u32 x8.digits.d8))])) (ys := [(.v (.bool x8.minus)), (.v (.int .u32 x8.digits.d0)), (.v (.int .u32 x8.digits.d1)), (.v (.int .u32 x8.digits.d2)), (.v (.int .u32 x8.digits.d3)), (.v (.int .u32 x8.digits.d4)), (.v (.int .u32 x8.digits.d5)), (.v (.int .u32 x8.digits.d6)), (.v (.int .u32 x8.digits.d7)), (.v (.int .u32 x8.digits.d8))]) (cells' := [(.v (.bool x8.minus)), (.v (.int .u32 x8.digits.d0)), (.v (.int .u32 x8.digits.d1)), (.v (.int .u32 x8.digits.d2)), (.v (.int .u32 x8.digits.d3)), (.v (.int .u32 x8.digits.d4)), (.v (.int .u32 x8.digits.d5)), (.v (.int .u32 x8.digits.d6)), (.v (.int .u32 x8.digits.d7)), (.v (.int .u32 x8.digits.d8))]) H 0 rfl rfl rfl rfl rfl rfl rfl rfl rfl nofun ?_; intro σ H
      apply Ops.nil
      replace H := H.all
      apply Runs.then
      refine Runs.regionH 26 rfl H ?_; intro b13 σ H
      refine Ops.fieldAddrH (off := 0) (fo := 1) H 1 rfl rfl rfl rfl rfl nofun rfl ?_
      refine Ops.loadHA (off := 1) (cs := [(.v (.int .u32 x7.digits.d0)), (.v (.int .u32 x7.digits.d1)), (.v (.int .u32 x7.digits.d2)), (.v (.int .u32 x7.digits.d3)), (.v (.int .u32 x7.digits.d4)), (.v (.int .u32 x7.digits.d5)), (.v (.int .u32 x7.digits.d6)), (.v (.int .u32 x7.digits.d7)), (.v (.int .u32 x7.digits.d8))]) H 1 rfl rfl rfl rfl rfl rfl rfl nofun rfl ?_
      refine Ops.fieldAddrH (off := 0) (fo := 1) H 0 rfl rfl rfl rfl rfl nofun rfl ?_
      refine Ops.loadHA (off := 1) (cs := [(.v (.int .u32 x8.digits.d0)), (.v (.int .u32 x8.digits.d1)), (.v (.int .u32 x8.digits.d2)), (.v (.int .u32 x8.digits.d3)), (.v (.int .u32 x8.digits.d4)), (.v (.int .u32 x8.digits.d5)), (.v (.int .u32 x8.digits.d6)), (.v (.int .u32 x8.digits.d7)), (.v (.int .u32 x8.digits.d8))]) H 0 rfl rfl rfl rfl rfl rfl rfl nofun rfl ?_
      refine Ops.call (ys := [(.agg [(.v (.int .u32 x7.digits.d0)), (.v (.int .u32 x7.digits.d1)), (.v (.int .u32 x7.digits.d2)), (.v (.int .u32 x7.digits.d3)), (.v (.int .u32 x7.digits.d4)), (.v (.int .u32 x7.digits.d5)), (.v (.int .u32 x7.digits.d6)), (.v (.int .u32 x7.digits.d7)), (.v (.int .u32 x7.digits.d8))]), (.agg [(.v (.int .u32 x8.digits.d0)), (.v (.int .u32 x8.digits.d1)), (.v (.int .u32 x8.digits.d2)), (.v (.int .u32 x8.digits.d3)), (.v (.int .u32 x8.digits.d4)), (.v (.int .u32 x8.digits.d5)), (.v (.int .u32 x8.digits.d6)), (.v (.int .u32 x8.digits.d7)), (.v (.int .u32 x8.digits.d8))])]) (r := (.v (.bool (epactref01_below x7.digits x8.digits)))) rfl (epactref01_below_fn rfl) rfl ?_
      refine Ops.not (b := (epactref01_below x7.digits x8.digits)) rfl rfl ?_
      refine Ops.move (v := (.v (.bool (!(epactref01_below x7.digits x8.digits))))) rfl rfl ?_
      refine Ops.mid 7 (K1 := fun e σ => EnvHas e [(61, (.v (.bool ((!(epactref01_below x7.digits x8.digits)) && (!(epactref01_below x8.digits x7.digits)))))), (0, (.v (.int .i64 a))), (1, (.v (.int .i64 b))), (9, (.v (.int .i64 (w64 (a.tdiv b))))), (10, (.v (.int .i64 x2))), (11, (.v (.int .i64 0))), (12, (.ptr (b11 + 8) 10 0)), (13, (.ptr (b12 + 2) 10 0))] ∧ Has σ (b13 + 14) (b13 + 26) [.blk (b12 + 2) 73 [(.v (.bool x8.minus)), (.v (.int .u32 x8.digits.d0)), (.v (.int .u32 x8.digits.d1)), (.v (.int .u32 x8.digits.d2)), (.v (.int .u32 x8.digits.d3)), (.v (.int .u32 x8.digits.d4)), (.v (.int .u32 x8.digits.d5)), (.v (.int .u32 x8.digits.d6)), (.v (.int .u32 x8.digits.d7)), (.v (.int .u32 x8.digits.d8))], .blk (b11 + 8) 73 [(.v (.bool x7.minus)), (.v (.int .u32 x7.digits.d0)), (.v (.int .u32 x7.digits.d1)), (.v (.int .u32 x7.digits.d2)), (.v (.int .u32 x7.digits.d3)), (.v (.int .u32 x7.digits.d4)), (.v (.int .u32 x7.digits.d5)), (.v (.int .u32 x7.digits.d6)), (.v (.int .u32 x7.digits.d7)), (.v (.int .u32 x7.digits.d8))]]) rfl ?_ ?_
      · refine Ops.split rfl rfl ?_ ?_ <;> intro hc3
        · skip
          refine Ops.wanted rfl rfl ?_
          refine Ops.fieldAddrH (off := 0) (fo := 1) H 0 rfl rfl rfl rfl rfl nofun rfl ?_
          refine Ops.wanted rfl rfl ?_
          refine Ops.loadHA (off := 1) (cs := [(.v (.int .u32 x8.digits.d0)), (.v (.int .u32 x8.digits.d1)), (.v (.int .u32 x8.digits.d2)), (.v (.int .u32 x8.digits.d3)), (.v (.int .u32 x8.digits.d4)), (.v (.int .u32 x8.digits.d5)), (.v (.int .u32 x8.digits.d6)), (.v (.int .u32 x8.digits.d7)), (.v (.int .u32 x8.digits.d8))]) H 0 rfl rfl rfl rfl rfl rfl rfl nofun rfl ?_
          refine Ops.wanted rfl rfl ?_
          refine Ops.fieldAddrH (off := 0) (fo := 1) H 1 rfl rfl rfl rfl rfl nofun rfl ?_
          refine Ops.wanted rfl rfl ?_
          refine Ops.loadHA (off := 1) (cs := [(.v (.int .u32 x7.digits.d0)), (.v (.int .u32 x7.digits.d1)), (.v (.int .u32 x7.digits.d2)), (.v (.int .u32 x7.digits.d3)), (.v (.int .u32 x7.digits.d4)), (.v (.int .u32 x7.digits.d5)), (.v (.int .u32 x7.digits.d6)), (.v (.int .u32 x7.digits.d7)), (.v (.int .u32 x7.digits.d8))]) H 1 rfl rfl rfl rfl rfl rfl rfl nofun rfl ?_
          refine Ops.wanted rfl rfl ?_
          refine Ops.call (ys := [(.agg [(.v (.int .u32 x8.digits.d0)), (.v (.int .u32 x8.digits.d1)), (.v (.int .u32 x8.digits.d2)), (.v (.int .u32 x8.digits.d3)), (.v (.int .u32 x8.digits.d4)), (.v (.int .u32 x8.digits.d5)), (.v (.int .u32 x8.digits.d6)), (.v (.int .u32 x8.digits.d7)), (.v (.int .u32 x8.digits.d8))]), (.agg [(.v (.int .u32 x7.digits.d0)), (.v (.int .u32 x7.digits.d1)), (.v (.int .u32 x7.digits.d2)), (.v (.int .u32 x7.digits.d3)), (.v (.int .u32 x7.digits.d4)), (.v (.int .u32 x7.digits.d5)), (.v (.int .u32 x7.digits.d6)), (.v (.int .u32 x7.digits.d7)), (.v (.int .u32 x7.digits.d8))])]) (r := (.v (.bool (epactref01_below x8.digits x7.digits)))) rfl (epactref01_below_fn rfl) rfl ?_
          refine Ops.wanted rfl rfl ?_
          refine Ops.not (b := (epactref01_below x8.digits x7.digits)) rfl rfl ?_
          refine Ops.pickT (v := (.v (.bool (!(epactref01_below x8.digits x7.digits))))) rfl rfl rfl ?_
          apply Ops.nil
          exact ⟨⟨and_T hc3, rfl, rfl, rfl, rfl, rfl, rfl, rfl, trivial⟩, H.weak (by omega) (Nat.le_refl _)⟩
        · skip
          refine Ops.pass rfl rfl rfl ?_
          refine Ops.pass rfl rfl rfl ?_
          refine Ops.pass rfl rfl rfl ?_
          refine Ops.pass rfl rfl rfl ?_
          refine Ops.pass rfl rfl rfl ?_
          refine Ops.pass rfl rfl rfl ?_
          refine Ops.pickF (v := (.v (.bool false))) rfl rfl rfl ?_
          apply Ops.nil
          exact ⟨⟨and_F hc3, rfl, rfl, rfl, rfl, rfl, rfl, rfl, trivial⟩, H.weak (by omega) (Nat.le_refl _)⟩
      · rintro e σ ⟨he, H⟩
        obtain ⟨e, rfl⟩ := he.ex
        refine Ops.move (v := (.v (.bool ((!(epactref01_below x7.digits x8.digits)) && (!(epactref01_below x8.digits x7.digits)))))) rfl rfl ?_
        refine Ops.mid 10 (K1 := fun e σ => EnvHas e [(72, (.v (.bool (((!(epactref01_below x7.digits x8.digits)) && (!(epactref01_below x8.digits x7.digits))) && ((x7.minus == x8.minus) || (a == 0)))))), (0, (.v (.int .i64 a))), (1, (.v (.int .i64 b))), (9, (.v (.int .i64 (w64 (a.tdiv b))))), (10, (.v (.int .i64 x2))), (11, (.v (.int .i64 0)))] ∧ Has σ (b13 + 25) (b13 + 26) []) rfl ?_ ?_
        · refine Ops.split rfl rfl ?_ ?_ <;> intro hc4
          · skip
            refine Ops.wanted rfl rfl ?_
            refine Ops.fieldAddrH (off := 0) (fo := 0) H 1 rfl rfl rfl rfl rfl nofun rfl ?_
            refine Ops.wanted rfl rfl ?_
            refine Ops.loadH (off := 0) (v := (.v (.bool x7.minus))) H 1 rfl rfl rfl rfl rfl nofun rfl ?_
            refine Ops.wanted rfl rfl ?_
            refine Ops.fieldAddrH (off := 0) (fo := 0) H 0 rfl rfl rfl rfl rfl nofun rfl ?_
            refine Ops.wanted rfl rfl ?_
            refine Ops.loadH (off := 0) (v := (.v (.bool x8.minus))) H 0 rfl rfl rfl rfl rfl nofun rfl ?_
            refine Ops.wanted rfl rfl ?_
            refine Ops.eqB (b := x7.minus) (b' := x8.minus) rfl rfl rfl rfl ?_
            refine Ops.wanted rfl rfl ?_
            refine Ops.move (v := (.v (.bool (x7.minus == x8.minus)))) rfl rfl ?_
            refine Ops.mid 3 (K1 := fun e σ => EnvHas e [(71, (.v (.bool ((x7.minus == x8.minus) || (a == 0))))), (0, (.v (.int .i64 a))), (1, (.v (.int .i64 b))), (9, (.v (.int .i64 (w64 (a.tdiv b))))), (10, (.v (.int .i64 x2))), (11, (.v (.int .i64 0))), (62, (.v (.bool true)))] ∧ Has σ (b13 + 24) (b13 + 26) []) rfl ?_ ?_
            · refine Ops.split rfl rfl ?_ ?_ <;> intro hc5
              · skip
                refine Ops.pass rfl rfl rfl ?_
                refine Ops.pass rfl rfl rfl ?_
                refine Ops.wanted rfl rfl ?_
                refine Ops.pickT (v := (.v (.bool true))) rfl rfl rfl ?_
                apply Ops.nil
                exact ⟨⟨or_T hc5, rfl, rfl, rfl, rfl, rfl, rfl, trivial⟩, ((H.erase 1).erase 0).weak (by omega) (Nat.le_refl _)⟩
              · skip
                refine Ops.wanted rfl rfl ?_
                refine Ops.move (v := (.v (.int .i64 a))) rfl rfl ?_
                refine Ops.wanted rfl rfl ?_
                refine Ops.int (m := a) (m' := 0) (r := .bool (a == 0)) rfl rfl rfl rfl rfl ?_
                refine Ops.wanted rfl rfl ?_
                refine Ops.pickF (v := (.v (.bool (a == 0)))) rfl rfl rfl ?_
                apply Ops.nil
                exact ⟨⟨or_F hc5, rfl, rfl, rfl, rfl, rfl, rfl, trivial⟩, ((H.erase 1).erase 0).weak (by omega) (Nat.le_refl _)⟩
            · rintro e σ ⟨he, H⟩
              obtain ⟨e, rfl⟩ := he.ex
              refine Ops.pickT (v := (.v (.bool ((x7.minus == x8.minus) || (a == 0))))) rfl rfl rfl ?_
              apply Ops.nil
              exact ⟨⟨and_T hc4, rfl, rfl, rfl, rfl, rfl, trivial⟩, H.weak (by omega) (Nat.le_refl _)⟩
          · skip
            refine Ops.pass rfl rfl rfl ?_
            refine Ops.pass rfl rfl rfl ?_
            refine Ops.pass rfl rfl rfl ?_
            refine Ops.pass rfl rfl rfl ?_
            refine Ops.pass rfl rfl rfl ?_
            refine Ops.pass rfl rfl rfl ?_
            refine Ops.passU rfl rfl rfl ?_
            refine Ops.passU rfl rfl rfl ?_
            refine Ops.pass rfl rfl rfl ?_
            refine Ops.pickF (v := (.v (.bool false))) rfl rfl rfl ?_
            apply Ops.nil
            exact ⟨⟨and_F hc4, rfl, rfl, rfl, rfl, rfl, trivial⟩, ((H.erase 1).erase 0).weak (by omega) (Nat.le_refl _)⟩
        · rintro e σ ⟨he, H⟩
          obtain ⟨e, rfl⟩ := he.ex
          refine Ops.assign (v := (.v (.bool (((!(epactref01_below x7.digits x8.digits)) && (!(epactref01_below x8.digits x7.digits))) && ((x7.minus == x8.minus) || (a == 0)))))) rfl rfl ?_
          apply Ops.nil
          replace H := H.all
          apply Runs.then
          apply Runs.then
          refine Runs.regionH 31 rfl H ?_; intro b14 σ H
          refine Ops.move (v := (.v (.bool (((!(epactref01_below x7.digits x8.digits)) && (!(epactref01_below x8.digits x7.digits))) && ((x7.minus == x8.minus) || (a == 0)))))) rfl rfl ?_
          refine Ops.move (v := (.v (.bool (((!(epactref01_below x7.digits x8.digits)) && (!(epactref01_below x8.digits x7.digits))) && ((x7.minus == x8.minus) || (a == 0)))))) rfl rfl ?_
          refine Ops.mid 29 (K1 := fun e σ => EnvHas e [(103, (.v (.bool ((((!(epactref01_below x7.digits x8.digits)) && (!(epactref01_below x8.digits x7.digits))) && ((x7.minus == x8.minus) || (a == 0))) && (((x2 == 0) || (((decide (b > 0)) && (decide (x2 > 0))) && (decide (x2 < b)))) || (((decide (b < 0)) && (decide (x2 < 0))) && (decide (x2 > b)))))))), (0, (.v (.int .i64 a))), (1, (.v (.int .i64 b))), (9, (.v (.int .i64 (w64 (a.tdiv b))))), (10, (.v (.int .i64 x2))), (11, (.v (.int .i64 0)))] ∧ Has σ (b14 + 31) (b14 + 31) []) rfl ?_ ?_
          · refine Ops.split rfl rfl ?_ ?_ <;> intro hc6
            · skip
              refine Ops.wanted rfl rfl ?_
              refine Ops.move (v := (.v (.int .i64 x2))) rfl rfl ?_
              refine Ops.wanted rfl rfl ?_
              refine Ops.int (m := x2) (m' := 0) (r := .bool (x2 == 0)) rfl rfl rfl rfl rfl ?_
              refine Ops.wanted rfl rfl ?_
              refine Ops.move (v := (.v (.bool (x2 == 0)))) rfl rfl ?_
              refine Ops.mid 12 (K1 := fun e σ => EnvHas e [(89, (.v (.bool ((x2 == 0) || (((decide (b > 0)) && (decide (x2 > 0))) && (decide (x2 < b))))))), (0, (.v (.int .i64 a))), (1, (.v (.int .i64 b))), (9, (.v (.int .i64 (w64 (a.tdiv b))))), (10, (.v (.int .i64 x2))), (11, (.v (.int .i64 0))), (74, (.v (.bool true)))] ∧ Has σ (b14 + 17) (b14 + 31) []) rfl ?_ ?_
              · refine Ops.split rfl rfl ?_ ?_ <;> intro hc7
                · skip
                  refine Ops.pass rfl rfl rfl ?_
                  refine Ops.pass rfl rfl rfl ?_
                  refine Ops.pass rfl rfl rfl ?_
                  refine Ops.passU rfl rfl rfl ?_
                  refine Ops.passU rfl rfl rfl ?_
                  refine Ops.pass rfl rfl rfl ?_
                  refine Ops.pass rfl rfl rfl ?_
                  refine Ops.passU rfl rfl rfl ?_
                  refine Ops.passU rfl rfl rfl ?_
                  refine Ops.passU rfl rfl rfl ?_
                  refine Ops.pass rfl rfl rfl ?_
                  refine Ops.wanted rfl rfl ?_
                  refine Ops.pickT (v := (.v (.bool true))) rfl rfl rfl ?_
                  apply Ops.nil
                  exact ⟨⟨or_T hc7, rfl, rfl, rfl, rfl, rfl, rfl, trivial⟩, H.weak (by omega) (Nat.le_refl _)⟩
                · skip
                  refine Ops.wanted rfl rfl ?_
                  refine Ops.move (v := (.v (.int .i64 b))) rfl rfl ?_
                  refine Ops.wanted rfl rfl ?_
                  refine Ops.int (m := b) (m' := 0) (r := .bool (decide (b > 0))) rfl rfl rfl rfl rfl ?_
                  refine Ops.wanted rfl rfl ?_
                  refine Ops.move (v := (.v (.bool (decide (b > 0))))) rfl rfl ?_
                  refine Ops.mid 3 (K1 := fun e σ => EnvHas e [(83, (.v (.bool ((decide (b > 0)) && (decide (x2 > 0)))))), (0, (.v (.int .i64 a))), (1, (.v (.int .i64 b))), (9, (.v (.int .i64 (w64 (a.tdiv b))))), (10, (.v (.int .i64 x2))), (11, (.v (.int .i64 0))), (74, (.v (.bool true))), (77, (.v (.bool false)))] ∧ Has σ (b14 + 11) (b14 + 31) []) rfl ?_ ?_
                  · refine Ops.split rfl rfl ?_ ?_ <;> intro hc8
                    · skip
                      refine Ops.wanted rfl rfl ?_
                      refine Ops.move (v := (.v (.int .i64 x2))) rfl rfl ?_
                      refine Ops.wanted rfl rfl ?_
                      refine Ops.int (m := x2) (m' := 0) (r := .bool (decide (x2 > 0))) rfl rfl rfl rfl rfl ?_
                      refine Ops.wanted rfl rfl ?_
                      refine Ops.pickT (v := (.v (.bool (decide (x2 > 0))))) rfl rfl rfl ?_
                      apply Ops.nil
                      exact ⟨⟨and_T hc8, rfl, rfl, rfl, rfl, rfl, rfl, rfl, trivial⟩, H.weak (by omega) (Nat.le_refl _)⟩
                    · skip
                      refine Ops.pass rfl rfl rfl ?_
                      refine Ops.pass rfl rfl rfl ?_
                      refine Ops.wanted rfl rfl ?_
                      refine Ops.pickF (v := (.v (.bool false))) rfl rfl rfl ?_
                      apply Ops.nil
                      exact ⟨⟨and_F hc8, rfl, rfl, rfl, rfl, rfl, rfl, rfl, trivial⟩, H.weak (by omega) (Nat.le_refl _)⟩
                  · rintro e σ ⟨he, H⟩
                    obtain ⟨e, rfl⟩ := he.ex
                    refine Ops.wanted rfl rfl ?_
                    refine Ops.move (v := (.v (.bool ((decide (b > 0)) && (decide (x2 > 0)))))) rfl rfl ?_
                    refine Ops.mid 4 (K1 := fun e σ => EnvHas e [(88, (.v (.bool (((decide (b > 0)) && (decide (x2 > 0))) && (decide (x2 < b)))))), (0, (.v (.int .i64 a))), (1, (.v (.int .i64 b))), (9, (.v (.int .i64 (w64 (a.tdiv b))))), (10, (.v (.int .i64 x2))), (11, (.v (.int .i64 0))), (74, (.v (.bool true))), (77, (.v (.bool false)))] ∧ Has σ (b14 + 16) (b14 + 31) []) rfl ?_ ?_
                    · refine Ops.split rfl rfl ?_ ?_ <;> intro hc9
                      · skip
                        refine Ops.wanted rfl rfl ?_
                        refine Ops.move (v := (.v (.int .i64 x2))) rfl rfl ?_
                        refine Ops.wanted rfl rfl ?_
                        refine Ops.move (v := (.v (.int .i64 b))) rfl rfl ?_
                        refine Ops.wanted rfl rfl ?_
                        refine Ops.int (m := x2) (m' := b) (r := .bool (decide (x2 < b))) rfl rfl rfl rfl rfl ?_
                        refine Ops.wanted rfl rfl ?_
                        refine Ops.pickT (v := (.v (.bool (decide (x2 < b))))) rfl rfl rfl ?_
                        apply Ops.nil
                        exact ⟨⟨and_T hc9, rfl, rfl, rfl, rfl, rfl, rfl, rfl, trivial⟩, H.weak (by omega) (Nat.le_refl _)⟩
                      · skip
                        refine Ops.pass rfl rfl rfl ?_
                        refine Ops.pass rfl rfl rfl ?_
                        refine Ops.pass rfl rfl rfl ?_
                        refine Ops.wanted rfl rfl ?_
                        refine Ops.pickF (v := (.v (.bool false))) rfl rfl rfl ?_
                        apply Ops.nil
                        exact ⟨⟨and_F hc9, rfl, rfl, rfl, rfl, rfl, rfl, rfl, trivial⟩, H.weak (by omega) (Nat.le_refl _)⟩
                    · rintro e σ ⟨he, H⟩
                      obtain ⟨e, rfl⟩ := he.ex
                      refine Ops.wanted rfl rfl ?_
                      refine Ops.pickF (v := (.v (.bool (((decide (b > 0)) && (decide (x2 > 0))) && (decide (x2 < b)))))) rfl rfl rfl ?_
                      apply Ops.nil
                      exact ⟨⟨or_F hc7, rfl, rfl, rfl, rfl, rfl, rfl, trivial⟩, H.weak (by omega) (Nat.le_refl _)⟩
              · rintro e σ ⟨he, H⟩
                obtain ⟨e, rfl⟩ := he.ex
                refine Ops.wanted rfl rfl ?_
                refine Ops.move (v := (.v (.bool ((x2 == 0) || (((decide (b > 0)) && (decide (x2 > 0))) && (decide (x2 < b))))))) rfl rfl ?_
                refine Ops.mid 12 (K1 := fun e σ => EnvHas e [(102, (.v (.bool (((x2 == 0) || (((decide (b > 0)) && (decide (x2 > 0))) && (decide (x2 < b)))) || (((decide (b < 0)) && (decide (x2 < 0))) && (decide (x2 > b))))))), (0, (.v (.int .i64 a))), (1, (.v (.int .i64 b))), (9, (.v (.int .i64 (w64 (a.tdiv b))))), (10, (.v (.int .i64 x2))), (11, (.v (.int .i64 0))), (74, (.v (.bool true)))] ∧ Has σ (b14 + 30) (b14 + 31) []) rfl ?_ ?_
                · refine Ops.split rfl rfl ?_ ?_ <;> intro hc10
                  · skip
                    refine Ops.pass rfl rfl rfl ?_
                    refine Ops.pass rfl rfl rfl ?_
                    refine Ops.pass rfl rfl rfl ?_
                    refine Ops.passU rfl rfl rfl ?_
                    refine Ops.passU rfl rfl rfl ?_
                    refine Ops.pass rfl rfl rfl ?_
                    refine Ops.pass rfl rfl rfl ?_
                    refine Ops.passU rfl rfl rfl ?_
                    refine Ops.passU rfl rfl rfl ?_
                    refine Ops.passU rfl rfl rfl ?_
                    refine Ops.pass rfl rfl rfl ?_
                    refine Ops.wanted rfl rfl ?_
                    refine Ops.pickT (v := (.v (.bool true))) rfl rfl rfl ?_
                    apply Ops.nil
                    exact ⟨⟨or_T hc10, rfl, rfl, rfl, rfl, rfl, rfl, trivial⟩, H.weak (by omega) (Nat.le_refl _)⟩
                  · skip
                    refine Ops.wanted rfl rfl ?_
                    refine Ops.move (v := (.v (.int .i64 b))) rfl rfl ?_
                    refine Ops.wanted rfl rfl ?_
                    refine Ops.int (m := b) (m' := 0) (r := .bool (decide (b < 0))) rfl rfl rfl rfl rfl ?_
                    refine Ops.wanted rfl rfl ?_
                    refine Ops.move (v := (.v (.bool (decide (b < 0))))) rfl rfl ?_
                    refine Ops.mid 3 (K1 := fun e σ => EnvHas e [(96, (.v (.bool ((decide (b < 0)) && (decide (x2 < 0)))))), (0, (.v (.int .i64 a))), (1, (.v (.int .i64 b))), (9, (.v (.int .i64 (w64 (a.tdiv b))))), (10, (.v (.int .i64 x2))), (11, (.v (.int .i64 0))), (74, (.v (.bool true))), (90, (.v (.bool false)))] ∧ Has σ (b14 + 24) (b14 + 31) []) rfl ?_ ?_
                    · refine Ops.split rfl rfl ?_ ?_ <;> intro hc11
                      · skip
                        refine Ops.wanted rfl rfl ?_
                        refine Ops.move (v := (.v (.int .i64 x2))) rfl rfl ?_
                        refine Ops.wanted rfl rfl ?_
                        refine Ops.int (m := x2) (m' := 0) (r := .bool (decide (x2 < 0))) rfl rfl rfl rfl rfl ?_
                        refine Ops.wanted rfl rfl ?_
                        refine Ops.pickT (v := (.v (.bool (decide (x2 < 0))))) rfl rfl rfl ?_
                        apply Ops.nil
                        exact ⟨⟨and_T hc11, rfl, rfl, rfl, rfl, rfl, rfl, rfl, trivial⟩, H.weak (by omega) (Nat.le_refl _)⟩
                      · skip
                        refine Ops.pass rfl rfl rfl ?_
                        refine Ops.pass rfl rfl rfl ?_
                        refine Ops.wanted rfl rfl ?_
                        refine Ops.pickF (v := (.v (.bool false))) rfl rfl rfl ?_
                        apply Ops.nil
                        exact ⟨⟨and_F hc11, rfl, rfl, rfl, rfl, rfl, rfl, rfl, trivial⟩, H.weak (by omega) (Nat.le_refl _)⟩
                    · rintro e σ ⟨he, H⟩
                      obtain ⟨e, rfl⟩ := he.ex
                      refine Ops.wanted rfl rfl ?_
                      refine Ops.move (v := (.v (.bool ((decide (b < 0)) && (decide (x2 < 0)))))) rfl rfl ?_
                      refine Ops.mid 4 (K1 := fun e σ => EnvHas e [(101, (.v (.bool (((decide (b < 0)) && (decide (x2 < 0))) && (decide (x2 > b)))))), (0, (.v (.int .i64 a))), (1, (.v (.int .i64 b))), (9, (.v (.int .i64 (w64 (a.tdiv b))))), (10, (.v (.int .i64 x2))), (11, (.v (.int .i64 0))), (74, (.v (.bool true))), (90, (.v (.bool false)))] ∧ Has σ (b14 + 29) (b14 + 31) []) rfl ?_ ?_
                      · refine Ops.split rfl rfl ?_ ?_ <;> intro hc12
                        · skip
                          refine Ops.wanted rfl rfl ?_
                          refine Ops.move (v := (.v (.int .i64 x2))) rfl rfl ?_
                          refine Ops.wanted rfl rfl ?_
                          refine Ops.move (v := (.v (.int .i64 b))) rfl rfl ?_
                          refine Ops.wanted rfl rfl ?_
                          refine Ops.int (m := x2) (m' := b) (r := .bool (decide (x2 > b))) rfl rfl rfl rfl rfl ?_
                          refine Ops.wanted rfl rfl ?_
                          refine Ops.pickT (v := (.v (.bool (decide (x2 > b))))) rfl rfl rfl ?_
                          apply Ops.nil
                          exact ⟨⟨and_T hc12, rfl, rfl, rfl, rfl, rfl, rfl, rfl, trivial⟩, H.weak (by omega) (Nat.le_refl _)⟩
                        · skip
                          refine Ops.pass rfl rfl rfl ?_
                          refine Ops.pass rfl rfl rfl ?_
                          refine Ops.pass rfl rfl rfl ?_
                          refine Ops.wanted rfl rfl ?_
                          refine Ops.pickF (v := (.v (.bool false))) rfl rfl rfl ?_
                          apply Ops.nil
                          exact ⟨⟨and_F hc12, rfl, rfl, rfl, rfl, rfl, rfl, rfl, trivial⟩, H.weak (by omega) (Nat.le_refl _)⟩
                      · rintro e σ ⟨he, H⟩
                        obtain ⟨e, rfl⟩ := he.ex
                        refine Ops.wanted rfl rfl ?_
                        refine Ops.pickF (v := (.v (.bool (((decide (b < 0)) && (decide (x2 < 0))) && (decide (x2 > b)))))) rfl rfl rfl ?_
                        apply Ops.nil
                        exact ⟨⟨or_F hc10, rfl, rfl, rfl, rfl, rfl, rfl, trivial⟩, H.weak (by omega) (Nat.le_refl _)⟩
                · rintro e σ ⟨he, H⟩
                  obtain ⟨e, rfl⟩ := he.ex
                  refine Ops.pickT (v := (.v (.bool (((x2 == 0) || (((decide (b > 0)) && (decide (x2 > 0))) && (decide (x2 < b)))) || (((decide (b < 0)) && (decide (x2 < 0))) && (decide (x2 > b))))))) rfl rfl rfl ?_
                  apply Ops.nil
                  exact ⟨⟨and_T hc6, rfl, rfl, rfl, rfl, rfl, trivial⟩, H.weak (by omega) (Nat.le_refl _)⟩
            · skip
              refine Ops.pass rfl rfl rfl ?_
              refine Ops.pass rfl rfl rfl ?_
              refine Ops.pass rfl rfl rfl ?_
              refine Ops.passU rfl rfl rfl ?_
              refine Ops.passU rfl rfl rfl ?_
              refine Ops.passU rfl rfl rfl ?_
              refine Ops.passU rfl rfl rfl ?_
              refine Ops.passU rfl rfl rfl ?_
              refine Ops.passU rfl rfl rfl ?_
              refine Ops.passU rfl rfl rfl ?_
              refine Ops.passU rfl rfl rfl ?_
              refine Ops.passU rfl rfl rfl ?_
              refine Ops.passU rfl rfl rfl ?_
              refine Ops.passU rfl rfl rfl ?_
              refine Ops.pass rfl rfl rfl ?_
              refine Ops.pass rfl rfl rfl ?_
              refine Ops.passU rfl rfl rfl ?_
              refine Ops.passU rfl rfl rfl ?_
              refine Ops.passU rfl rfl rfl ?_
              refine Ops.passU rfl rfl rfl ?_
              refine Ops.passU rfl rfl rfl ?_
              refine Ops.passU rfl rfl rfl ?_
              refine Ops.passU rfl rfl rfl ?_
              refine Ops.passU rfl rfl rfl ?_
              refine Ops.passU rfl rfl rfl ?_
              refine Ops.passU rfl rfl rfl ?_
              refine Ops.passU rfl rfl rfl ?_
              refine Ops.pass rfl rfl rfl ?_
              refine Ops.pickF (v := (.v (.bool false))) rfl rfl rfl ?_
              apply Ops.nil
              exact ⟨⟨and_F hc6, rfl, rfl, rfl, rfl, rfl, trivial⟩, H.weak (by omega) (Nat.le_refl _)⟩
          · rintro e σ ⟨he, H⟩
            obtain ⟨e, rfl⟩ := he.ex
            apply Ops.nil
            replace H := H.all
            refine Runs.whether (v := ((((!(epactref01_below x7.digits x8.digits)) && (!(epactref01_below x8.digits x7.digits))) && ((x7.minus == x8.minus) || (a == 0))) && (((x2 == 0) || (((decide (b > 0)) && (decide (x2 > 0))) && (decide (x2 < b)))) || (((decide (b < 0)) && (decide (x2 < 0))) && (decide (x2 > b)))))) rfl ?_ ?_ <;> intro hc13
            · replace h := cond_T hc13 h
              apply Runs.exit
              apply Runs.then
              refine Runs.regionH 5 rfl H ?_; intro b15 σ H
              refine Ops.move (v := (.v (.int .i64 (w64 (a.tdiv b))))) rfl rfl ?_
              refine Ops.move (v := (.v (.int .i64 x2))) rfl rfl ?_
              refine Ops.assign (v := (.v (.int .i64 (w64 (a.tdiv b))))) rfl rfl ?_
              refine Ops.assign (v := (.v (.int .i64 x2))) rfl rfl ?_
              refine Ops.assign (v := (.v (.int .i64 0))) rfl rfl ?_
              apply Ops.nil
              replace H := H.all
              apply Runs.ret
              replace h := Option.some.inj h; subst h
              exact (Ends.H (xs := [(.v (.int .i64 (w64 (a.tdiv b)))), (.v (.int .i64 x2)), (.v (.int .i64 0))]) (.inr rfl) H (.tmp (v := (.v (.int .i64 (w64 (a.tdiv b))))) rfl (.tmp (v := (.v (.int .i64 x2))) rfl (.tmp (v := (.v (.int .i64 0))) rfl .nil))) (.two (.cons (.c (.v _)) (.cons (.c (.v _)) (.cons (.c (.v _)) .nil)))))
            · replace h := cond_F hc13 h
              apply Runs.skip
              apply Runs.then
              refine Runs.regionH 3 rfl H ?_; intro b16 σ H
              refine Ops.move (v := (.v (.int .i64 (w64 (a.tdiv b))))) rfl rfl ?_
              refine Ops.int (m := (w64 (a.tdiv b))) (m' := 1) (r := .int .i64 (w64 ((w64 (a.tdiv b)) - 1))) rfl rfl rfl rfl rfl ?_
              obtain ⟨x9, q10, h⟩ := bind_some h
              refine Ops.assign (v := (.v (.int .i64 x9))) (by rw [← Option.some.inj q10]; rfl) rfl ?_
              apply Ops.nil
              replace H := H.all
              refine Runs.regionH 4 rfl H ?_; intro b17 σ H
              refine Ops.move (v := (.v (.int .i64 x2))) rfl rfl ?_
              refine Ops.move (v := (.v (.int .i64 b))) rfl rfl ?_
              refine Ops.int (m := x2) (m' := b) (r := .int .i64 (w64 (x2 + b))) rfl rfl rfl rfl rfl ?_
              refine Ops.assign (v := (.v (.int .i64 (w64 (x2 + b))))) rfl rfl ?_
              apply Ops.nil
              replace H := H.all
              refine Runs.regionH 3 rfl H ?_; intro b18 σ H
              refine Ops.move (v := (.v (.int .i64 0))) rfl rfl ?_
              refine Ops.int (m := 0) (m' := 1) (r := .int .i64 1) rfl rfl rfl rfl rfl ?_
              refine Ops.assign (v := (.v (.int .i64 1))) rfl rfl ?_
              apply Ops.nil
              replace H := H.all
              apply Runs.again
              apply Runs.then
              apply Runs.then
              refine Runs.regionH 2 rfl H ?_; intro b19 σ H
              refine Ops.move (v := (.v (.int .i64 1))) rfl rfl ?_
              refine Ops.int (m := 1) (m' := 2) (r := .bool true) rfl rfl rfl rfl rfl ?_
              apply Ops.nil
              replace H := H.all
              refine Runs.yes rfl ?_
              apply Runs.skip
              apply Runs.then
              apply Runs.inBlock
              apply Runs.then
              refine Runs.regionH 10 rfl H ?_; intro b20 σ H
              refine Ops.move (v := (.v (.int .i64 x9))) rfl rfl ?_
              obtain ⟨x10, q11, h⟩ := bind_some h
              refine Ops.call (ys := [(.v (.int .i64 x9))]) (r := (.agg [(.v (.bool x10.minus)), (.v (.int .u32 x10.digits.d0)), (.v (.int .u32 x10.digits.d1)), (.v (.int .u32 x10.digits.d2)), (.v (.int .u32 x10.digits.d3)), (.v (.int .u32 x10.digits.d4)), (.v (.int .u32 x10.digits.d5)), (.v (.int .u32 x10.digits.d6)), (.v (.int .u32 x10.digits.d7)), (.v (.int .u32 x10.digits.d8))])) rfl (epactref01_of_fn q11) rfl ?_
              refine Ops.move (v := (.v (.int .i64 b))) rfl rfl ?_
              obtain ⟨x11, q12, h⟩ := bind_some h
              refine Ops.call (ys := [(.v (.int .i64 b))]) (r := (.agg [(.v (.bool x11.minus)), (.v (.int .u32 x11.digits.d0)), (.v (.int .u32 x11.digits.d1)), (.v (.int .u32 x11.digits.d2)), (.v (.int .u32 x11.digits.d3)), (.v (.int .u32 x11.digits.d4)), (.v (.int .u32 x11.digits.d5)), (.v (.int .u32 x11.digits.d6)), (.v (.int .u32 x11.digits.d7)), (.v (.int .u32 x11.digits.d8))])) rfl (epactref01_of_fn q12) rfl ?_
              obtain ⟨x12, q13, h⟩ := bind_some h
              refine Ops.call (ys := [(.agg [(.v (.bool x10.minus)), (.v (.int .u32 x10.digits.d0)), (.v (.int .u32 x10.digits.d1)), (.v (.int .u32 x10.digits.d2)), (.v (.int .u32 x10.digits.d3)), (.v (.int .u32 x10.digits.d4)), (.v (.int .u32 x10.digits.d5)), (.v (.int .u32 x10.digits.d6)), (.v (.int .u32 x10.digits.d7)), (.v (.int .u32 x10.digits.d8))]), (.agg [(.v (.bool x11.minus)), (.v (.int .u32 x11.digits.d0)), (.v (.int .u32 x11.digits.d1)), (.v (.int .u32 x11.digits.d2)), (.v (.int .u32 x11.digits.d3)), (.v (.int .u32 x11.digits.d4)), (.v (.int .u32 x11.digits.d5)), (.v (.int .u32 x11.digits.d6)), (.v (.int .u32 x11.digits.d7)), (.v (.int .u32 x11.digits.d8))])]) (r := (.agg [(.v (.bool x12.minus)), (.v (.int .u32 x12.digits.d0)), (.v (.int .u32 x12.digits.d1)), (.v (.int .u32 x12.digits.d2)), (.v (.int .u32 x12.digits.d3)), (.v (.int .u32 x12.digits.d4)), (.v (.int .u32 x12.digits.d5)), (.v (.int .u32 x12.digits.d6)), (.v (.int .u32 x12.digits.d7)), (.v (.int .u32 x12.digits.d8))])) rfl (epactref01_product_fn q13) rfl ?_
              refine Ops.move (v := (.v (.int .i64 (w64 (x2 + b))))) rfl rfl ?_
              obtain ⟨x13, q14, h⟩ := bind_some h
              refine Ops.call (ys := [(.v (.int .i64 (w64 (x2 + b))))]) (r := (.agg [(.v (.bool x13.minus)), (.v (.int .u32 x13.digits.d0)), (.v (.int .u32 x13.digits.d1)), (.v (.int .u32 x13.digits.d2)), (.v (.int .u32 x13.digits.d3)), (.v (.int .u32 x13.digits.d4)), (.v (.int .u32 x13.digits.d5)), (.v (.int .u32 x13.digits.d6)), (.v (.int .u32 x13.digits.d7)), (.v (.int .u32 x13.digits.d8))])) rfl (epactref01_of_fn q14) rfl ?_
              obtain ⟨x14, q15, h⟩ := bind_some h
              refine Ops.call (ys := [(.agg [(.v (.bool x12.minus)), (.v (.int .u32 x12.digits.d0)), (.v (.int .u32 x12.digits.d1)), (.v (.int .u32 x12.digits.d2)), (.v (.int .u32 x12.digits.d3)), (.v (.int .u32 x12.digits.d4)), (.v (.int .u32 x12.digits.d5)), (.v (.int .u32 x12.digits.d6)), (.v (.int .u32 x12.digits.d7)), (.v (.int .u32 x12.digits.d8))]), (.agg [(.v (.bool x13.minus)), (.v (.int .u32 x13.digits.d0)), (.v (.int .u32 x13.digits.d1)), (.v (.int .u32 x13.digits.d2)), (.v (.int .u32 x13.digits.d3)), (.v (.int .u32 x13.digits.d4)), (.v (.int .u32 x13.digits.d5)), (.v (.int .u32 x13.digits.d6)), (.v (.int .u32 x13.digits.d7)), (.v (.int .u32 x13.digits.d8))])]) (r := (.agg [(.v (.bool x14.minus)), (.v (.int .u32 x14.digits.d0)), (.v (.int .u32 x14.digits.d1)), (.v (.int .u32 x14.digits.d2)), (.v (.int .u32 x14.digits.d3)), (.v (.int .u32 x14.digits.d4)), (.v (.int .u32 x14.digits.d5)), (.v (.int .u32 x14.digits.d6)), (.v (.int .u32 x14.digits.d7)), (.v (.int .u32 x14.digits.d8))])) rfl (epactref01_sum_fn q15) rfl ?_
              refine Ops.allocH (cs := [(.v (.bool false)), (.v (.int .u32 0)), (.v (.int .u32 0)), (.v (.int .u32 0)), (.v (.int .u32 0)), (.v (.int .u32 0)), (.v (.int .u32 0)), (.v (.int .u32 0)), (.v (.int .u32 0)), (.v (.int .u32 0))]) H (by omega) (by omega) rfl rfl ?_; intro σ H
              refine Ops.storeH (off := 0) (v := (.agg [(.v (.bool x14.minus)), (.v (.int .u32 x14.digits.d0)), (.v (.int .u32 x14.digits.d1)), (.v (.int .u32 x14.digits.d2)), (.v (.int .u32 x14.digits.d3)), (.v (.int .u32 x14.digits.d4)), (.v (.int .u32 x14.digits.d5)), (.v (.int .u32 x14.digits.d6)), (.v (.int .u32 x14.digits.d7)), (.v (.int .u32 x14.digits.d8))])) (ys := [(.v (.bool x14.minus)), (.v (.int .u32 x14.digits.d0)), (.v (.int .u32 x14.digits.d1)), (.v (.int .u32 x14.digits.d2)), (.v (.int .u32 x14.digits.d3)), (.v (.int .u32 x14.digits.d4)), (.v (.int .u32 x14.digits.d5)), (.v (.int .u32 x14.digits.d6)), (.v (.int .u32 x14.digits.d7)), (.v (.int .u32 x14.digits.d8))]) (cells' := [(.v (.bool x14.minus)), (.v (.int .u32 x14.digits.d0)), (.v (.int .u32 x14.digits.d1)), (.v (.int .u32 x14.digits.d2)), (.v (.int .u32 x14.digits.d3)), (.v (.int .u32 x14.digits.d4)), (.v (.int .u32 x14.digits.d5)), (.v (.int .u32 x14.digits.d6)), (.v (.int .u32 x14.digits.d7)), (.v (.int .u32 x14.digits.d8))]) H 0 rfl rfl rfl rfl rfl rfl rfl rfl rfl nofun ?_; intro σ H
              apply Ops.nil
              replace H := H.all
              apply Runs.then
              refine Runs.regionH 4 rfl H ?_; intro b21 σ H
              refine Ops.move (v := (.v (.int .i64 a))) rfl rfl ?_
              obtain ⟨x15, q16, h⟩ := bind_some h
              refine Ops.call (ys := [(.v (.int .i64 a))]) (r := (.agg [(.v (.bool x15.minus)), (.v (.int .u32 x15.digits.d0)), (.v (.int .u32 x15.digits.d1)), (.v (.int .u32 x15.digits.d2)), (.v (.int .u32 x15.digits.d3)), (.v (.int .u32 x15.digits.d4)), (.v (.int .u32 x15.digits.d5)), (.v (.int .u32 x15.digits.d6)), (.v (.int .u32 x15.digits.d7)), (.v (.int .u32 x15.digits.d8))])) rfl (epactref01_of_fn q16) rfl ?_
              refine Ops.allocH (cs := [(.v (.bool false)), (.v (.int .u32 0)), (.v (.int .u32 0)), (.v (.int .u32 0)), (.v (.int .u32 0)), (.v (.int .u32 0)), (.v (.int .u32 0)), (.v (.int .u32 0)), (.v (.int .u32 0)), (.v (.int .u32 0))]) H (by omega) (by omega) rfl rfl ?_; intro σ H
              refine Ops.storeH (off := 0) (v := (.agg [(.v (.bool x15.minus)), (.v (.int .u32 x15.digits.d0)), (.v (.int .u32 x15.digits.d1)), (.v (.int .u32 x15.digits.d2)), (.v (.int .u32 x15.digits.d3)), (.v (.int .u32 x15.digits.d4)), (.v (.int .u32 x15.digits.d5)), (.v (.int .u32 x15.digits.d6)), (.v (.int .u32 x15.digits.d7)), (.v (.int .u32 x15.digits.d8))])) (ys := [(.v (.bool x15.minus)), (.v (.int .u32 x15.digits.d0)), (.v (.int .u32 x15.digits.d1)), (.v (.int .u32 x15.digits.d2)), (.v (.int .u32 x15.digits.d3)), (.v (.int .u32 x15.digits.d4)), (.v (.int .u32 x15.digits.d5)), (.v (.int .u32 x15.digits.d6)), (.v (.int .u32 x15.digits.d7)), (.v (.int .u32 x15.digits.d8))]) (cells' := [(.v (.bool x15.minus)), (.v (.int .u32 x15.digits.d0)), (.v (.int .u32 x15.digits.d1)), (.v (.int .u32 x15.digits.d2)), (.v (.int .u32 x15.digits.d3)), (.v (.int .u32 x15.digits.d4)), (.v (.int .u32 x15.digits.d5)), (.v (.int .u32 x15.digits.d6)), (.v (.int .u32 x15.digits.d7)), (.v (.int .u32 x15.digits.d8))]) H 0 rfl rfl rfl rfl rfl rfl rfl rfl rfl nofun ?_; intro σ H
              apply Ops.nil
              replace H := H.all
              apply Runs.then
              refine Runs.regionH 26 rfl H ?_; intro b22 σ H
              refine Ops.fieldAddrH (off := 0) (fo := 1) H 1 rfl rfl rfl rfl rfl nofun rfl ?_
              refine Ops.loadHA (off := 1) (cs := [(.v (.int .u32 x14.digits.d0)), (.v (.int .u32 x14.digits.d1)), (.v (.int .u32 x14.digits.d2)), (.v (.int .u32 x14.digits.d3)), (.v (.int .u32 x14.digits.d4)), (.v (.int .u32 x14.digits.d5)), (.v (.int .u32 x14.digits.d6)), (.v (.int .u32 x14.digits.d7)), (.v (.int .u32 x14.digits.d8))]) H 1 rfl rfl rfl rfl rfl rfl rfl nofun rfl ?_
              refine Ops.fieldAddrH (off := 0) (fo := 1) H 0 rfl rfl rfl rfl rfl nofun rfl ?_
              refine Ops.loadHA (off := 1) (cs := [(.v (.int .u32 x15.digits.d0)), (.v (.int .u32 x15.digits.d1)), (.v (.int .u32 x15.digits.d2)), (.v (.int .u32 x15.digits.d3)), (.v (.int .u32 x15.digits.d4)), (.v (.int .u32 x15.digits.d5)), (.v (.int .u32 x15.digits.d6)), (.v (.int .u32 x15.digits.d7)), (.v (.int .u32 x15.digits.d8))]) H 0 rfl rfl rfl rfl rfl rfl rfl nofun rfl ?_
              refine Ops.call (ys := [(.agg [(.v (.int .u32 x14.digits.d0)), (.v (.int .u32 x14.digits.d1)), (.v (.int .u32 x14.digits.d2)), (.v (.int .u32 x14.digits.d3)), (.v (.int .u32 x14.digits.d4)), (.v (.int .u32 x14.digits.d5)), (.v (.int .u32 x14.digits.d6)), (.v (.int .u32 x14.digits.d7)), (.v (.int .u32 x14.digits.d8))]), (.agg [(.v (.int .u32 x15.digits.d0)), (.v (.int .u32 x15.digits.d1)), (.v (.int .u32 x15.digits.d2)), (.v (.int .u32 x15.digits.d3)), (.v (.int .u32 x15.digits.d4)), (.v (.int .u32 x15.digits.d5)), (.v (.int .u32 x15.digits.d6)), (.v (.int .u32 x15.digits.d7)), (.v (.int .u32 x15.digits.d8))])]) (r := (.v (.bool (epactref01_below x14.digits x15.digits)))) rfl (epactref01_below_fn rfl) rfl ?_
              refine Ops.not (b := (epactref01_below x14.digits x15.digits)) rfl rfl ?_
              refine Ops.move (v := (.v (.bool (!(epactref01_below x14.digits x15.digits))))) rfl rfl ?_
              refine Ops.mid 7 (K1 := fun e σ => EnvHas e [(61, (.v (.bool ((!(epactref01_below x14.digits x15.digits)) && (!(epactref01_below x15.digits x14.digits)))))), (0, (.v (.int .i64 a))), (1, (.v (.int .i64 b))), (9, (.v (.int .i64 x9))), (10, (.v (.int .i64 (w64 (x2 + b))))), (11, (.v (.int .i64 1))), (12, (.ptr (b20 + 8) 10 0)), (13, (.ptr (b21 + 2) 10 0))] ∧ Has σ (b22 + 14) (b22 + 26) [.blk (b21 + 2) 73 [(.v (.bool x15.minus)), (.v (.int .u32 x15.digits.d0)), (.v (.int .u32 x15.digits.d1)), (.v (.int .u32 x15.digits.d2)), (.v (.int .u32 x15.digits.d3)), (.v (.int .u32 x15.digits.d4)), (.v (.int .u32 x15.digits.d5)), (.v (.int .u32 x15.digits.d6)), (.v (.int .u32 x15.digits.d7)), (.v (.int .u32 x15.digits.d8))], .blk (b20 + 8) 73 [(.v (.bool x14.minus)), (.v (.int .u32 x14.digits.d0)), (.v (.int .u32 x14.digits.d1)), (.v (.int .u32 x14.digits.d2)), (.v (.int .u32 x14.digits.d3)), (.v (.int .u32 x14.digits.d4)), (.v (.int .u32 x14.digits.d5)), (.v (.int .u32 x14.digits.d6)), (.v (.int .u32 x14.digits.d7)), (.v (.int .u32 x14.digits.d8))]]) rfl ?_ ?_
              · refine Ops.split rfl rfl ?_ ?_ <;> intro hc14
                · skip
                  refine Ops.wanted rfl rfl ?_
                  refine Ops.fieldAddrH (off := 0) (fo := 1) H 0 rfl rfl rfl rfl rfl nofun rfl ?_
                  refine Ops.wanted rfl rfl ?_
                  refine Ops.loadHA (off := 1) (cs := [(.v (.int .u32 x15.digits.d0)), (.v (.int .u32 x15.digits.d1)), (.v (.int .u32 x15.digits.d2)), (.v (.int .u32 x15.digits.d3)), (.v (.int .u32 x15.digits.d4)), (.v (.int .u32 x15.digits.d5)), (.v (.int .u32 x15.digits.d6)), (.v (.int .u32 x15.digits.d7)), (.v (.int .u32 x15.digits.d8))]) H 0 rfl rfl rfl rfl rfl rfl rfl nofun rfl ?_
                  refine Ops.wanted rfl rfl ?_
                  refine Ops.fieldAddrH (off := 0) (fo := 1) H 1 rfl rfl rfl rfl rfl nofun rfl ?_
                  refine Ops.wanted rfl rfl ?_
                  refine Ops.loadHA (off := 1) (cs := [(.v (.int .u32 x14.digits.d0)), (.v (.int .u32 x14.digits.d1)), (.v (.int .u32 x14.digits.d2)), (.v (.int .u32 x14.digits.d3)), (.v (.int .u32 x14.digits.d4)), (.v (.int .u32 x14.digits.d5)), (.v (.int .u32 x14.digits.d6)), (.v (.int .u32 x14.digits.d7)), (.v (.int .u32 x14.digits.d8))]) H 1 rfl rfl rfl rfl rfl rfl rfl nofun rfl ?_
                  refine Ops.wanted rfl rfl ?_
                  refine Ops.call (ys := [(.agg [(.v (.int .u32 x15.digits.d0)), (.v (.int .u32 x15.digits.d1)), (.v (.int .u32 x15.digits.d2)), (.v (.int .u32 x15.digits.d3)), (.v (.int .u32 x15.digits.d4)), (.v (.int .u32 x15.digits.d5)), (.v (.int .u32 x15.digits.d6)), (.v (.int .u32 x15.digits.d7)), (.v (.int .u32 x15.digits.d8))]), (.agg [(.v (.int .u32 x14.digits.d0)), (.v (.int .u32 x14.digits.d1)), (.v (.int .u32 x14.digits.d2)), (.v (.int .u32 x14.digits.d3)), (.v (.int .u32 x14.digits.d4)), (.v (.int .u32 x14.digits.d5)), (.v (.int .u32 x14.digits.d6)), (.v (.int .u32 x14.digits.d7)), (.v (.int .u32 x14.digits.d8))])]) (r := (.v (.bool (epactref01_below x15.digits x14.digits)))) rfl (epactref01_below_fn rfl) rfl ?_
                  refine Ops.wanted rfl rfl ?_
                  refine Ops.not (b := (epactref01_below x15.digits x14.digits)) rfl rfl ?_
                  refine Ops.pickT (v := (.v (.bool (!(epactref01_below x15.digits x14.digits))))) rfl rfl rfl ?_
                  apply Ops.nil
                  exact ⟨⟨and_T hc14, rfl, rfl, rfl, rfl, rfl, rfl, rfl, trivial⟩, H.weak (by omega) (Nat.le_refl _)⟩
                · skip
                  refine Ops.pass rfl rfl rfl ?_
                  refine Ops.pass rfl rfl rfl ?_
                  refine Ops.pass rfl rfl rfl ?_
                  refine Ops.pass rfl rfl rfl ?_
                  refine Ops.pass rfl rfl rfl ?_
                  refine Ops.pass rfl rfl rfl ?_
                  refine Ops.pickF (v := (.v (.bool false))) rfl rfl rfl ?_
                  apply Ops.nil
                  exact ⟨⟨and_F hc14, rfl, rfl, rfl, rfl, rfl, rfl, rfl, trivial⟩, H.weak (by omega) (Nat.le_refl _)⟩
              · rintro e σ ⟨he, H⟩
                obtain ⟨e, rfl⟩ := he.ex
                refine Ops.move (v := (.v (.bool ((!(epactref01_below x14.digits x15.digits)) && (!(epactref01_below x15.digits x14.digits)))))) rfl rfl ?_
                refine Ops.mid 10 (K1 := fun e σ => EnvHas e [(72, (.v (.bool (((!(epactref01_below x14.digits x15.digits)) && (!(epactref01_below x15.digits x14.digits))) && ((x14.minus == x15.minus) || (a == 0)))))), (0, (.v (.int .i64 a))), (1, (.v (.int .i64 b))), (9, (.v (.int .i64 x9))), (10, (.v (.int .i64 (w64 (x2 + b))))), (11, (.v (.int .i64 1)))] ∧ Has σ (b22 + 25) (b22 + 26) []) rfl ?_ ?_
                · refine Ops.split rfl rfl ?_ ?_ <;> intro hc15
                  · skip
                    refine Ops.wanted rfl rfl ?_
                    refine Ops.fieldAddrH (off := 0) (fo := 0) H 1 rfl rfl rfl rfl rfl nofun rfl ?_
                    refine Ops.wanted rfl rfl ?_
                    refine Ops.loadH (off := 0) (v := (.v (.bool x14.minus))) H 1 rfl rfl rfl rfl rfl nofun rfl ?_
                    refine Ops.wanted rfl rfl ?_
                    refine Ops.fieldAddrH (off := 0) (fo := 0) H 0 rfl rfl rfl rfl rfl nofun rfl ?_
                    refine Ops.wanted rfl rfl ?_
                    refine Ops.loadH (off := 0) (v := (.v (.bool x15.minus))) H 0 rfl rfl rfl rfl rfl nofun rfl ?_
                    refine Ops.wanted rfl rfl ?_
                    refine Ops.eqB (b := x14.minus) (b' := x15.minus) rfl rfl rfl rfl ?_
                    refine Ops.wanted rfl rfl ?_
                    refine Ops.move (v := (.v (.bool (x14.minus == x15.minus)))) rfl rfl ?_
                    refine Ops.mid 3 (K1 := fun e σ => EnvHas e [(71, (.v (.bool ((x14.minus == x15.minus) || (a == 0))))), (0, (.v (.int .i64 a))), (1, (.v (.int .i64 b))), (9, (.v (.int .i64 x9))), (10, (.v (.int .i64 (w64 (x2 + b))))), (11, (.v (.int .i64 1))), (62, (.v (.bool true)))] ∧ Has σ (b22 + 24) (b22 + 26) []) rfl ?_ ?_
                    · refine Ops.split rfl rfl ?_ ?_ <;> intro hc16
                      · skip
                        refine Ops.pass rfl rfl rfl ?_
                        refine Ops.pass rfl rfl rfl ?_
                        refine Ops.wanted rfl rfl ?_
                        refine Ops.pickT (v := (.v (.bool true))) rfl rfl rfl ?_
                        apply Ops.nil
                        exact ⟨⟨or_T hc16, rfl, rfl, rfl, rfl, rfl, rfl, trivial⟩, ((H.erase 1).erase 0).weak (by omega) (Nat.le_refl _)⟩
                      · skip
                        refine Ops.wanted rfl rfl ?_
                        refine Ops.move (v := (.v (.int .i64 a))) rfl rfl ?_
                        refine Ops.wanted rfl rfl ?_
                        refine Ops.int (m := a) (m' := 0) (r := .bool (a == 0)) rfl rfl rfl rfl rfl ?_
                        refine Ops.wanted rfl rfl ?_
                        refine Ops.pickF (v := (.v (.bool (a == 0)))) rfl rfl rfl ?_
                        apply Ops.nil
                        exact ⟨⟨or_F hc16, rfl, rfl, rfl, rfl, rfl, rfl, trivial⟩, ((H.erase 1).erase 0).weak (by omega) (Nat.le_refl _)⟩
                    · rintro e σ ⟨he, H⟩
                      obtain ⟨e, rfl⟩ := he.ex
                      refine Ops.pickT (v := (.v (.bool ((x14.minus == x15.minus) || (a == 0))))) rfl rfl rfl ?_
                      apply Ops.nil
                      exact ⟨⟨and_T hc15, rfl, rfl, rfl, rfl, rfl, trivial⟩, H.weak (by omega) (Nat.le_refl _)⟩
                  · skip
                    refine Ops.pass rfl rfl rfl ?_
                    refine Ops.pass rfl rfl rfl ?_
                    refine Ops.pass rfl rfl rfl ?_
                    refine Ops.pass rfl rfl rfl ?_
                    refine Ops.pass rfl rfl rfl ?_
                    refine Ops.pass rfl rfl rfl ?_
                    refine Ops.passU rfl rfl rfl ?_
                    refine Ops.passU rfl rfl rfl ?_
                    refine Ops.pass rfl rfl rfl ?_
                    refine Ops.pickF (v := (.v (.bool false))) rfl rfl rfl ?_
                    apply Ops.nil
                    exact ⟨⟨and_F hc15, rfl, rfl, rfl, rfl, rfl, trivial⟩, ((H.erase 1).erase 0).weak (by omega) (Nat.le_refl _)⟩
                · rintro e σ ⟨he, H⟩
                  obtain ⟨e, rfl⟩ := he.ex
                  refine Ops.assign (v := (.v (.bool (((!(epactref01_below x14.digits x15.digits)) && (!(epactref01_below x15.digits x14.digits))) && ((x14.minus == x15.minus) || (a == 0)))))) rfl rfl ?_
                  apply Ops.nil
                  replace H := H.all
                  apply Runs.then
                  apply Runs.then
                  refine Runs.regionH 31 rfl H ?_; intro b23 σ H
                  refine Ops.move (v := (.v (.bool (((!(epactref01_below x14.digits x15.digits)) && (!(epactref01_below x15.digits x14.digits))) && ((x14.minus == x15.minus) || (a == 0)))))) rfl rfl ?_
                  refine Ops.move (v := (.v (.bool (((!(epactref01_below x14.digits x15.digits)) && (!(epactref01_below x15.digits x14.digits))) && ((x14.minus == x15.minus) || (a == 0)))))) rfl rfl ?_
                  refine Ops.mid 29 (K1 := fun e σ => EnvHas e [(103, (.v (.bool ((((!(epactref01_below x14.digits x15.digits)) && (!(epactref01_below x15.digits x14.digits))) && ((x14.minus == x15.minus) || (a == 0))) && ((((w64 (x2 + b)) == 0) || (((decide (b > 0)) && (decide ((w64 (x2 + b)) > 0))) && (decide ((w64 (x2 + b)) < b)))) || (((decide (b < 0)) && (decide ((w64 (x2 + b)) < 0))) && (decide ((w64 (x2 + b)) > b)))))))), (0, (.v (.int .i64 a))), (1, (.v (.int .i64 b))), (9, (.v (.int .i64 x9))), (10, (.v (.int .i64 (w64 (x2 + b))))), (11, (.v (.int .i64 1)))] ∧ Has σ (b23 + 31) (b23 + 31) []) rfl ?_ ?_
                  · refine Ops.split rfl rfl ?_ ?_ <;> intro hc17
                    · skip
                      refine Ops.wanted rfl rfl ?_
                      refine Ops.move (v := (.v (.int .i64 (w64 (x2 + b))))) rfl rfl ?_
                      refine Ops.wanted rfl rfl ?_
                      refine Ops.int (m := (w64 (x2 + b))) (m' := 0) (r := .bool ((w64 (x2 + b)) == 0)) rfl rfl rfl rfl rfl ?_
                      refine Ops.wanted rfl rfl ?_
                      refine Ops.move (v := (.v (.bool ((w64 (x2 + b)) == 0)))) rfl rfl ?_
                      refine Ops.mid 12 (K1 := fun e σ => EnvHas e [(89, (.v (.bool (((w64 (x2 + b)) == 0) || (((decide (b > 0)) && (decide ((w64 (x2 + b)) > 0))) && (decide ((w64 (x2 + b)) < b))))))), (0, (.v (.int .i64 a))), (1, (.v (.int .i64 b))), (9, (.v (.int .i64 x9))), (10, (.v (.int .i64 (w64 (x2 + b))))), (11, (.v (.int .i64 1))), (74, (.v (.bool true)))] ∧ Has σ (b23 + 17) (b23 + 31) []) rfl ?_ ?_
                      · refine Ops.split rfl rfl ?_ ?_ <;> intro hc18
                        · skip
                          refine Ops.pass rfl rfl rfl ?_
                          refine Ops.pass rfl rfl rfl ?_
                          refine Ops.pass rfl rfl rfl ?_
                          refine Ops.passU rfl rfl rfl ?_
                          refine Ops.passU rfl rfl rfl ?_
                          refine Ops.pass rfl rfl rfl ?_
                          refine Ops.pass rfl rfl rfl ?_
                          refine Ops.passU rfl rfl rfl ?_
                          refine Ops.passU rfl rfl rfl ?_
                          refine Ops.passU rfl rfl rfl ?_
                          refine Ops.pass rfl rfl rfl ?_
                          refine Ops.wanted rfl rfl ?_
                          refine Ops.pickT (v := (.v (.bool true))) rfl rfl rfl ?_
                          apply Ops.nil
                          exact ⟨⟨or_T hc18, rfl, rfl, rfl, rfl, rfl, rfl, trivial⟩, H.weak (by omega) (Nat.le_refl _)⟩
                        · skip
                          refine Ops.wanted rfl rfl ?_
                          refine Ops.move (v := (.v (.int .i64 b))) rfl rfl ?_
                          refine Ops.wanted rfl rfl ?_
                          refine Ops.int (m := b) (m' := 0) (r := .bool (decide (b > 0))) rfl rfl rfl rfl rfl ?_
                          refine Ops.wanted rfl rfl ?_
                          refine Ops.move (v := (.v (.bool (decide (b > 0))))) rfl rfl ?_
                          refine Ops.mid 3 (K1 := fun e σ => EnvHas e [(83, (.v (.bool ((decide (b > 0)) && (decide ((w64 (x2 + b)) > 0)))))), (0, (.v (.int .i64 a))), (1, (.v (.int .i64 b))), (9, (.v (.int .i64 x9))), (10, (.v (.int .i64 (w64 (x2 + b))))), (11, (.v (.int .i64 1))), (74, (.v (.bool true))), (77, (.v (.bool false)))] ∧ Has σ (b23 + 11) (b23 + 31) []) rfl ?_ ?_
                          · refine Ops.split rfl rfl ?_ ?_ <;> intro hc19
                            · skip
                              refine Ops.wanted rfl rfl ?_
                              refine Ops.move (v := (.v (.int .i64 (w64 (x2 + b))))) rfl rfl ?_
                              refine Ops.wanted rfl rfl ?_
                              refine Ops.int (m := (w64 (x2 + b))) (m' := 0) (r := .bool (decide ((w64 (x2 + b)) > 0))) rfl rfl rfl rfl rfl ?_
                              refine Ops.wanted rfl rfl ?_
                              refine Ops.pickT (v := (.v (.bool (decide ((w64 (x2 + b)) > 0))))) rfl rfl rfl ?_
                              apply Ops.nil
                              exact ⟨⟨and_T hc19, rfl, rfl, rfl, rfl, rfl, rfl, rfl, trivial⟩, H.weak (by omega) (Nat.le_refl _)⟩
                            · skip
                              refine Ops.pass rfl rfl rfl ?_
                              refine Ops.pass rfl rfl rfl ?_
                              refine Ops.wanted rfl rfl ?_
                              refine Ops.pickF (v := (.v (.bool false))) rfl rfl rfl ?_
                              apply Ops.nil
                              exact ⟨⟨and_F hc19, rfl, rfl, rfl, rfl, rfl, rfl, rfl, trivial⟩, H.weak (by omega) (Nat.le_refl _)⟩
                          · rintro e σ ⟨he, H⟩
                            obtain ⟨e, rfl⟩ := he.ex
                            refine Ops.wanted rfl rfl ?_
                            refine Ops.move (v := (.v (.bool ((decide (b > 0)) && (decide ((w64 (x2 + b)) > 0)))))) rfl rfl ?_
                            refine Ops.mid 4 (K1 := fun e σ => EnvHas e [(88, (.v (.bool (((decide (b > 0)) && (decide ((w64 (x2 + b)) > 0))) && (decide ((w64 (x2 + b)) < b)))))), (0, (.v (.int .i64 a))), (1, (.v (.int .i64 b))), (9, (.v (.int .i64 x9))), (10, (.v (.int .i64 (w64 (x2 + b))))), (11, (.v (.int .i64 1))), (74, (.v (.bool true))), (77, (.v (.bool false)))] ∧ Has σ (b23 + 16) (b23 + 31) []) rfl ?_ ?_
                            · refine Ops.split rfl rfl ?_ ?_ <;> intro hc20
                              · skip
                                refine Ops.wanted rfl rfl ?_
                                refine Ops.move (v := (.v (.int .i64 (w64 (x2 + b))))) rfl rfl ?_
                                refine Ops.wanted rfl rfl ?_
                                refine Ops.move (v := (.v (.int .i64 b))) rfl rfl ?_
                                refine Ops.wanted rfl rfl ?_
                                refine Ops.int (m := (w64 (x2 + b))) (m' := b) (r := .bool (decide ((w64 (x2 + b)) < b))) rfl rfl rfl rfl rfl ?_
                                refine Ops.wanted rfl rfl ?_
                                refine Ops.pickT (v := (.v (.bool (decide ((w64 (x2 + b)) < b))))) rfl rfl rfl ?_
                                apply Ops.nil
                                exact ⟨⟨and_T hc20, rfl, rfl, rfl, rfl, rfl, rfl, rfl, trivial⟩, H.weak (by omega) (Nat.le_refl _)⟩
                              · skip
                                refine Ops.pass rfl rfl rfl ?_
                                refine Ops.pass rfl rfl rfl ?_
                                refine Ops.pass rfl rfl rfl ?_
                                refine Ops.wanted rfl rfl ?_
                                refine Ops.pickF (v := (.v (.bool false))) rfl rfl rfl ?_
                                apply Ops.nil
                                exact ⟨⟨and_F hc20, rfl, rfl, rfl, rfl, rfl, rfl, rfl, trivial⟩, H.weak (by omega) (Nat.le_refl _)⟩
                            · rintro e σ ⟨he, H⟩
                              obtain ⟨e, rfl⟩ := he.ex
                              refine Ops.wanted rfl rfl ?_
                              refine Ops.pickF (v := (.v (.bool (((decide (b > 0)) && (decide ((w64 (x2 + b)) > 0))) && (decide ((w64 (x2 + b)) < b)))))) rfl rfl rfl ?_
                              apply Ops.nil
                              exact ⟨⟨or_F hc18, rfl, rfl, rfl, rfl, rfl, rfl, trivial⟩, H.weak (by omega) (Nat.le_refl _)⟩
                      · rintro e σ ⟨he, H⟩
                        obtain ⟨e, rfl⟩ := he.ex
                        refine Ops.wanted rfl rfl ?_
                        refine Ops.move (v := (.v (.bool (((w64 (x2 + b)) == 0) || (((decide (b > 0)) && (decide ((w64 (x2 + b)) > 0))) && (decide ((w64 (x2 + b)) < b))))))) rfl rfl ?_
                        refine Ops.mid 12 (K1 := fun e σ => EnvHas e [(102, (.v (.bool ((((w64 (x2 + b)) == 0) || (((decide (b > 0)) && (decide ((w64 (x2 + b)) > 0))) && (decide ((w64 (x2 + b)) < b)))) || (((decide (b < 0)) && (decide ((w64 (x2 + b)) < 0))) && (decide ((w64 (x2 + b)) > b))))))), (0, (.v (.int .i64 a))), (1, (.v (.int .i64 b))), (9, (.v (.int .i64 x9))), (10, (.v (.int .i64 (w64 (x2 + b))))), (11, (.v (.int .i64 1))), (74, (.v (.bool true)))] ∧ Has σ (b23 + 30) (b23 + 31) []) rfl ?_ ?_
                        · refine Ops.split rfl rfl ?_ ?_ <;> intro hc21
                          · skip
                            refine Ops.pass rfl rfl rfl ?_
                            refine Ops.pass rfl rfl rfl ?_
                            refine Ops.pass rfl rfl rfl ?_
                            refine Ops.passU rfl rfl rfl ?_
                            refine Ops.passU rfl rfl rfl ?_
                            refine Ops.pass rfl rfl rfl ?_
                            refine Ops.pass rfl rfl rfl ?_
                            refine Ops.passU rfl rfl rfl ?_
                            refine Ops.passU rfl rfl rfl ?_
                            refine Ops.passU rfl rfl rfl ?_
                            refine Ops.pass rfl rfl rfl ?_
                            refine Ops.wanted rfl rfl ?_
                            refine Ops.pickT (v := (.v (.bool true))) rfl rfl rfl ?_
                            apply Ops.nil
                            exact ⟨⟨or_T hc21, rfl, rfl, rfl, rfl, rfl, rfl, trivial⟩, H.weak (by omega) (Nat.le_refl _)⟩
                          · skip
                            refine Ops.wanted rfl rfl ?_
                            refine Ops.move (v := (.v (.int .i64 b))) rfl rfl ?_
                            refine Ops.wanted rfl rfl ?_
                            refine Ops.int (m := b) (m' := 0) (r := .bool (decide (b < 0))) rfl rfl rfl rfl rfl ?_
                            refine Ops.wanted rfl rfl ?_
                            refine Ops.move (v := (.v (.bool (decide (b < 0))))) rfl rfl ?_
                            refine Ops.mid 3 (K1 := fun e σ => EnvHas e [(96, (.v (.bool ((decide (b < 0)) && (decide ((w64 (x2 + b)) < 0)))))), (0, (.v (.int .i64 a))), (1, (.v (.int .i64 b))), (9, (.v (.int .i64 x9))), (10, (.v (.int .i64 (w64 (x2 + b))))), (11, (.v (.int .i64 1))), (74, (.v (.bool true))), (90, (.v (.bool false)))] ∧ Has σ (b23 + 24) (b23 + 31) []) rfl ?_ ?_
                            · refine Ops.split rfl rfl ?_ ?_ <;> intro hc22
                              · skip
                                refine Ops.wanted rfl rfl ?_
                                refine Ops.move (v := (.v (.int .i64 (w64 (x2 + b))))) rfl rfl ?_
                                refine Ops.wanted rfl rfl ?_
                                refine Ops.int (m := (w64 (x2 + b))) (m' := 0) (r := .bool (decide ((w64 (x2 + b)) < 0))) rfl rfl rfl rfl rfl ?_
                                refine Ops.wanted rfl rfl ?_
                                refine Ops.pickT (v := (.v (.bool (decide ((w64 (x2 + b)) < 0))))) rfl rfl rfl ?_
                                apply Ops.nil
                                exact ⟨⟨and_T hc22, rfl, rfl, rfl, rfl, rfl, rfl, rfl, trivial⟩, H.weak (by omega) (Nat.le_refl _)⟩
                              · skip
                                refine Ops.pass rfl rfl rfl ?_
                                refine Ops.pass rfl rfl rfl ?_
                                refine Ops.wanted rfl rfl ?_
                                refine Ops.pickF (v := (.v (.bool false))) rfl rfl rfl ?_
                                apply Ops.nil
                                exact ⟨⟨and_F hc22, rfl, rfl, rfl, rfl, rfl, rfl, rfl, trivial⟩, H.weak (by omega) (Nat.le_refl _)⟩
                            · rintro e σ ⟨he, H⟩
                              obtain ⟨e, rfl⟩ := he.ex
                              refine Ops.wanted rfl rfl ?_
                              refine Ops.move (v := (.v (.bool ((decide (b < 0)) && (decide ((w64 (x2 + b)) < 0)))))) rfl rfl ?_
                              refine Ops.mid 4 (K1 := fun e σ => EnvHas e [(101, (.v (.bool (((decide (b < 0)) && (decide ((w64 (x2 + b)) < 0))) && (decide ((w64 (x2 + b)) > b)))))), (0, (.v (.int .i64 a))), (1, (.v (.int .i64 b))), (9, (.v (.int .i64 x9))), (10, (.v (.int .i64 (w64 (x2 + b))))), (11, (.v (.int .i64 1))), (74, (.v (.bool true))), (90, (.v (.bool false)))] ∧ Has σ (b23 + 29) (b23 + 31) []) rfl ?_ ?_
                              · refine Ops.split rfl rfl ?_ ?_ <;> intro hc23
                                · skip
                                  refine Ops.wanted rfl rfl ?_
                                  refine Ops.move (v := (.v (.int .i64 (w64 (x2 + b))))) rfl rfl ?_
                                  refine Ops.wanted rfl rfl ?_
                                  refine Ops.move (v := (.v (.int .i64 b))) rfl rfl ?_
                                  refine Ops.wanted rfl rfl ?_
                                  refine Ops.int (m := (w64 (x2 + b))) (m' := b) (r := .bool (decide ((w64 (x2 + b)) > b))) rfl rfl rfl rfl rfl ?_
                                  refine Ops.wanted rfl rfl ?_
                                  refine Ops.pickT (v := (.v (.bool (decide ((w64 (x2 + b)) > b))))) rfl rfl rfl ?_
                                  apply Ops.nil
                                  exact ⟨⟨and_T hc23, rfl, rfl, rfl, rfl, rfl, rfl, rfl, trivial⟩, H.weak (by omega) (Nat.le_refl _)⟩
                                · skip
                                  refine Ops.pass rfl rfl rfl ?_
                                  refine Ops.pass rfl rfl rfl ?_
                                  refine Ops.pass rfl rfl rfl ?_
                                  refine Ops.wanted rfl rfl ?_
                                  refine Ops.pickF (v := (.v (.bool false))) rfl rfl rfl ?_
                                  apply Ops.nil
                                  exact ⟨⟨and_F hc23, rfl, rfl, rfl, rfl, rfl, rfl, rfl, trivial⟩, H.weak (by omega) (Nat.le_refl _)⟩
                              · rintro e σ ⟨he, H⟩
                                obtain ⟨e, rfl⟩ := he.ex
                                refine Ops.wanted rfl rfl ?_
                                refine Ops.pickF (v := (.v (.bool (((decide (b < 0)) && (decide ((w64 (x2 + b)) < 0))) && (decide ((w64 (x2 + b)) > b)))))) rfl rfl rfl ?_
                                apply Ops.nil
                                exact ⟨⟨or_F hc21, rfl, rfl, rfl, rfl, rfl, rfl, trivial⟩, H.weak (by omega) (Nat.le_refl _)⟩
                        · rintro e σ ⟨he, H⟩
                          obtain ⟨e, rfl⟩ := he.ex
                          refine Ops.pickT (v := (.v (.bool ((((w64 (x2 + b)) == 0) || (((decide (b > 0)) && (decide ((w64 (x2 + b)) > 0))) && (decide ((w64 (x2 + b)) < b)))) || (((decide (b < 0)) && (decide ((w64 (x2 + b)) < 0))) && (decide ((w64 (x2 + b)) > b))))))) rfl rfl rfl ?_
                          apply Ops.nil
                          exact ⟨⟨and_T hc17, rfl, rfl, rfl, rfl, rfl, trivial⟩, H.weak (by omega) (Nat.le_refl _)⟩
                    · skip
                      refine Ops.pass rfl rfl rfl ?_
                      refine Ops.pass rfl rfl rfl ?_
                      refine Ops.pass rfl rfl rfl ?_
                      refine Ops.passU rfl rfl rfl ?_
                      refine Ops.passU rfl rfl rfl ?_
                      refine Ops.passU rfl rfl rfl ?_
                      refine Ops.passU rfl rfl rfl ?_
                      refine Ops.passU rfl rfl rfl ?_
                      refine Ops.passU rfl rfl rfl ?_
                      refine Ops.passU rfl rfl rfl ?_
                      refine Ops.passU rfl rfl rfl ?_
                      refine Ops.passU rfl rfl rfl ?_
                      refine Ops.passU rfl rfl rfl ?_
                      refine Ops.passU rfl rfl rfl ?_
                      refine Ops.pass rfl rfl rfl ?_
                      refine Ops.pass rfl rfl rfl ?_
                      refine Ops.passU rfl rfl rfl ?_
                      refine Ops.passU rfl rfl rfl ?_
                      refine Ops.passU rfl rfl rfl ?_
                      refine Ops.passU rfl rfl rfl ?_
                      refine Ops.passU rfl rfl rfl ?_
                      refine Ops.passU rfl rfl rfl ?_
                      refine Ops.passU rfl rfl rfl ?_
                      refine Ops.passU rfl rfl rfl ?_
                      refine Ops.passU rfl rfl rfl ?_
                      refine Ops.passU rfl rfl rfl ?_
                      refine Ops.passU rfl rfl rfl ?_
                      refine Ops.pass rfl rfl rfl ?_
                      refine Ops.pickF (v := (.v (.bool false))) rfl rfl rfl ?_
                      apply Ops.nil
                      exact ⟨⟨and_F hc17, rfl, rfl, rfl, rfl, rfl, trivial⟩, H.weak (by omega) (Nat.le_refl _)⟩
                  · rintro e σ ⟨he, H⟩
                    obtain ⟨e, rfl⟩ := he.ex
                    apply Ops.nil
                    replace H := H.all
                    refine Runs.whether (v := ((((!(epactref01_below x14.digits x15.digits)) && (!(epactref01_below x15.digits x14.digits))) && ((x14.minus == x15.minus) || (a == 0))) && ((((w64 (x2 + b)) == 0) || (((decide (b > 0)) && (decide ((w64 (x2 + b)) > 0))) && (decide ((w64 (x2 + b)) < b)))) || (((decide (b < 0)) && (decide ((w64 (x2 + b)) < 0))) && (decide ((w64 (x2 + b)) > b)))))) rfl ?_ ?_ <;> intro hc24
                    · replace h := cond_T hc24 h
                      apply Runs.exit
                      apply Runs.then
                      refine Runs.regionH 5 rfl H ?_; intro b24 σ H
                      refine Ops.move (v := (.v (.int .i64 x9))) rfl rfl ?_
                      refine Ops.move (v := (.v (.int .i64 (w64 (x2 + b))))) rfl rfl ?_
                      refine Ops.assign (v := (.v (.int .i64 x9))) rfl rfl ?_
                      refine Ops.assign (v := (.v (.int .i64 (w64 (x2 + b))))) rfl rfl ?_
                      refine Ops.assign (v := (.v (.int .i64 0))) rfl rfl ?_
                      apply Ops.nil
                      replace H := H.all
                      apply Runs.ret
                      replace h := Option.some.inj h; subst h
                      exact (Ends.H (xs := [(.v (.int .i64 x9)), (.v (.int .i64 (w64 (x2 + b)))), (.v (.int .i64 0))]) (.inr rfl) H (.tmp (v := (.v (.int .i64 x9))) rfl (.tmp (v := (.v (.int .i64 (w64 (x2 + b))))) rfl (.tmp (v := (.v (.int .i64 0))) rfl .nil))) (.two (.cons (.c (.v _)) (.cons (.c (.v _)) (.cons (.c (.v _)) .nil)))))
                    · replace h := cond_F hc24 h
                      apply Runs.skip
                      apply Runs.then
                      refine Runs.regionH 3 rfl H ?_; intro b25 σ H
                      refine Ops.move (v := (.v (.int .i64 x9))) rfl rfl ?_
                      refine Ops.int (m := x9) (m' := 1) (r := .int .i64 (w64 (x9 - 1))) rfl rfl rfl rfl rfl ?_
                      refine Ops.assign (v := (.v (.int .i64 (w64 (x9 - 1))))) rfl rfl ?_
                      apply Ops.nil
                      replace H := H.all
                      refine Runs.regionH 4 rfl H ?_; intro b26 σ H
                      refine Ops.move (v := (.v (.int .i64 (w64 (x2 + b))))) rfl rfl ?_
                      refine Ops.move (v := (.v (.int .i64 b))) rfl rfl ?_
                      refine Ops.int (m := (w64 (x2 + b))) (m' := b) (r := .int .i64 (w64 ((w64 (x2 + b)) + b))) rfl rfl rfl rfl rfl ?_
                      obtain ⟨x16, q17, h⟩ := bind_some h
                      refine Ops.assign (v := (.v (.int .i64 x16))) (by rw [← Option.some.inj q17]; rfl) rfl ?_
                      apply Ops.nil
                      replace H := H.all
                      refine Runs.regionH 3 rfl H ?_; intro b27 σ H
                      refine Ops.move (v := (.v (.int .i64 1))) rfl rfl ?_
                      refine Ops.int (m := 1) (m' := 1) (r := .int .i64 2) rfl rfl rfl rfl rfl ?_
                      refine Ops.assign (v := (.v (.int .i64 2))) rfl rfl ?_
                      apply Ops.nil
                      replace H := H.all
                      apply Runs.again
                      apply Runs.then
                      apply Runs.then
                      refine Runs.regionH 2 rfl H ?_; intro b28 σ H
                      refine Ops.move (v := (.v (.int .i64 2))) rfl rfl ?_
                      refine Ops.int (m := 2) (m' := 2) (r := .bool false) rfl rfl rfl rfl rfl ?_
                      apply Ops.nil
                      replace H := H.all
                      refine Runs.no rfl ?_
                      apply Runs.exit
                      apply Runs.then
                      refine Runs.regionH 5 rfl H ?_; intro b29 σ H
                      refine Ops.move (v := (.v (.int .i64 (w64 (x9 - 1))))) rfl rfl ?_
                      refine Ops.move (v := (.v (.int .i64 x16))) rfl rfl ?_
                      refine Ops.assign (v := (.v (.int .i64 (w64 (x9 - 1))))) rfl rfl ?_
                      refine Ops.assign (v := (.v (.int .i64 x16))) rfl rfl ?_
                      refine Ops.assign (v := (.v (.int .i64 0))) rfl rfl ?_
                      apply Ops.nil
                      replace H := H.all
                      apply Runs.ret
                      replace h := Option.some.inj h; subst h
                      exact (Ends.H (xs := [(.v (.int .i64 (w64 (x9 - 1)))), (.v (.int .i64 x16)), (.v (.int .i64 0))]) (.inr rfl) H (.tmp (v := (.v (.int .i64 (w64 (x9 - 1))))) rfl (.tmp (v := (.v (.int .i64 x16))) rfl (.tmp (v := (.v (.int .i64 0))) rfl .nil))) (.two (.cons (.c (.v _)) (.cons (.c (.v _)) (.cons (.c (.v _)) .nil)))))

theorem safe_gcd_fn {a b r : Int} (h : gcd? a b = some r) : Fn CX 52 [(.v (.int .u64 a)), (.v (.int .u64 b))] (.v (.int .u64 r)) := by
  refine Fn.intr ?_ rfl rfl rfl
  rw [cx_intr52]
  unfold gcd? at h
  unfold gcdV
  dsimp only
  split at h
  · rename_i h1; cases h; rw [if_pos h1]
  · cases h

set_option maxRecDepth 100000 in
set_option maxHeartbeats 4000000 in
theorem safe_Gcd_fn {a : Int} {b : Int} {r : Int × Int} (h : safe_Gcd a b = some r) : Fn CX 18 [(.v (.int .i64 a)), (.v (.int .i64 b))] (.tup [(.v (.int .i64 r.1)), (.v (.int .i64 r.2))]) := by
  refine Fn.ends Try.func18 rfl rfl rfl rfl rfl rfl ?_
  have H : Hs (⟨0, fun _ => .none⟩ : Heap) [] := Has.nil (Nat.le_refl _)
  generalize (⟨0, fun _ => .none⟩ : Heap) = σ at H ⊢
  unfold safe_Gcd at h
  apply Runs.then
  refine Runs.regionH 2 rfl H ?_; intro b1 σ H
  refine Ops.assign (v := (.v (.int .i64 0))) rfl rfl ?_
  refine Ops.assign (v := (.v (.int .i64 0))) rfl rfl ?_
  apply Ops.nil
  replace H := H.all
  apply Runs.then
  refine Runs.regionH 10 rfl H ?_; intro b2 σ H
  refine Ops.move (v := (.v (.int .i64 a))) rfl rfl ?_
  refine Ops.call (ys := [(.v (.int .i64 a))]) (r := (.v (.int .u64 (safe_size a)))) rfl (safe_size_fn rfl) rfl ?_
  refine Ops.move (v := (.v (.int .i64 b))) rfl rfl ?_
  refine Ops.call (ys := [(.v (.int .i64 b))]) (r := (.v (.int .u64 (safe_size b)))) rfl (safe_size_fn rfl) rfl ?_
  obtain ⟨x1, q1, h⟩ := bind_some h
  refine Ops.call (ys := [(.v (.int .u64 (safe_size a))), (.v (.int .u64 (safe_size b)))]) (r := (.v (.int .u64 x1))) rfl (safe_gcd_fn q1) rfl ?_
  refine Ops.call (ys := [(.v (.int .u64 x1)), (.v (.bool false))]) (r := (.tup [(.v (.int .i64 (safe_signed x1 false).1)), (.v (.int .i64 (safe_signed x1 false).2))])) rfl (safe_signed_fn rfl) rfl ?_
  refine Ops.extract (v := (.v (.int .i64 (safe_signed x1 false).1))) rfl rfl rfl ?_
  refine Ops.extract (v := (.v (.int .i64 (safe_signed x1 false).2))) rfl rfl rfl ?_
  refine Ops.assign (v := (.v (.int .i64 (safe_signed x1 false).1))) rfl rfl ?_
  refine Ops.assign (v := (.v (.int .i64 (safe_signed x1 false).2))) rfl rfl ?_
  apply Ops.nil
  replace H := H.all
  apply Runs.ret
  replace h := Option.some.inj h; subst h
  exact (Ends.H (xs := [(.v (.int .i64 (safe_signed x1 false).1)), (.v (.int .i64 (safe_signed x1 false).2))]) (.inr rfl) H (.tmp (v := (.v (.int .i64 (safe_signed x1 false).1))) rfl (.tmp (v := (.v (.int .i64 (safe_signed x1 false).2))) rfl .nil)) (.two (.cons (.c (.v _)) (.cons (.c (.v _)) .nil))))

set_option maxRecDepth 100000 in
set_option maxHeartbeats 4000000 in
theorem epactref01_size_fn {a : Int} {r : Int} (h : epactref01_size a = r) : Fn CX 59 [(.v (.int .i64 a))] (.v (.int .u64 r)) := by
  refine Fn.ends Try.func59 rfl rfl rfl rfl rfl rfl ?_
  have H : Hs (⟨0, fun _ => .none⟩ : Heap) [] := Has.nil (Nat.le_refl _)
  generalize (⟨0, fun _ => .none⟩ : Heap) = σ at H ⊢
  unfold epactref01_size at h
  apply Runs.then
  refine Runs.regionH 1 rfl H ?_; intro b1 σ H
  refine Ops.assign (v := (.v (.int .u64 0))) rfl rfl ?_
  apply Ops.nil
  replace H := H.all
  apply Runs.then
  apply Runs.then
  refine Runs.regionH 2 rfl H ?_; intro b2 σ H
  refine Ops.move (v := (.v (.int .i64 a))) rfl rfl ?_
  refine Ops.int (m := a) (m' := 0) (r := .bool (decide (a < 0))) rfl rfl rfl rfl rfl ?_
  apply Ops.nil
  replace H := H.all
  refine Runs.whether (v := (decide (a < 0))) rfl ?_ ?_ <;> intro hc1
  · replace h := cond_T hc1 h
    apply Runs.then
    refine Runs.regionH 6 rfl H ?_; intro b3 σ H
    refine Ops.move (v := (.v (.int .i64 a))) rfl rfl ?_
    refine Ops.int (m := a) (m' := 1) (r := .int .i64 (w64 (a + 1))) rfl rfl rfl rfl rfl ?_
    refine Ops.neg (m := (w64 (a + 1))) rfl rfl ?_
    refine Ops.conv (m := (w64 (0 - (w64 (a + 1))))) rfl rfl rfl rfl ?_
    refine Ops.int (m := (IntKind.u64.wrap (w64 (0 - (w64 (a + 1)))))) (m' := 1) (r := .int .u64 (IntKind.u64.wrap ((IntKind.u64.wrap (w64 (0 - (w64 (a + 1))))) + 1))) rfl rfl rfl rfl rfl ?_
    refine Ops.assign (v := (.v (.int .u64 (IntKind.u64.wrap ((IntKind.u64.wrap (w64 (0 - (w64 (a + 1))))) + 1))))) rfl rfl ?_
    apply Ops.nil
    replace H := H.all
    apply Runs.ret
    subst h
    exact (Ends.H (xs := [(.v (.int .u64 (IntKind.u64.wrap ((IntKind.u64.wrap (w64 (0 - (w64 (a + 1))))) + 1))))]) (.inr rfl) H (.tmp (v := (.v (.int .u64 (IntKind.u64.wrap ((IntKind.u64.wrap (w64 (0 - (w64 (a + 1))))) + 1))))) rfl .nil) (.one (.c (.v _))))
  · replace h := cond_F hc1 h
    apply Runs.skip
    apply Runs.then
    refine Runs.regionH 3 rfl H ?_; intro b4 σ H
    refine Ops.move (v := (.v (.int .i64 a))) rfl rfl ?_
    refine Ops.conv (m := a) rfl rfl rfl rfl ?_
    refine Ops.assign (v := (.v (.int .u64 (IntKind.u64.wrap a)))) rfl rfl ?_
    apply Ops.nil
    replace H := H.all
    apply Runs.ret
    subst h
    exact (Ends.H (xs := [(.v (.int .u64 (IntKind.u64.wrap a)))]) (.inr rfl) H (.tmp (v := (.v (.int .u64 (IntKind.u64.wrap a)))) rfl .nil) (.one (.c (.v _))))

set_option maxRecDepth 100000 in
set_option maxHeartbeats 4000000 in
theorem epactref01_common_fn {a : Int} {b : Int} {r : Int} (h : epactref01_common a b = some r) : Fn CX 58 [(.v (.int .u64 a)), (.v (.int .u64 b))] (.v (.int .u64 r)) := by
  refine Fn.ends Try.func58 rfl rfl rfl rfl rfl rfl ?_
  have H : Hs (⟨0, fun _ => .none⟩ : Heap) [] := Has.nil (Nat.le_refl _)
  generalize (⟨0, fun _ => .none⟩ : Heap) = σ at H ⊢
  unfold epactref01_common at h
  apply Runs.then
  refine Runs.regionH 1 rfl H ?_; intro b1 σ H
  refine Ops.assign (v := (.v (.int .u64 0))) rfl rfl ?_
  apply Ops.nil
  replace H := H.all
  apply Runs.then
  refine Runs.regionH 1 rfl H ?_; intro b2 σ H
  refine Ops.assign (v := (.v (.int .u64 1))) rfl rfl ?_
  apply Ops.nil
  replace H := H.all
  apply Runs.then
  apply Runs.inBlock
  obtain ⟨y1, hj1, h⟩ := bind_some h
  obtain ⟨n1, hj1⟩ := loopO_iff.1 hj1
  refine Runs.mono (Runs.loopO hj1 (fun s1 e σ => EnvHas e [(0, (.v (.int .u64 s1.1))), (1, (.v (.int .u64 s1.2.1))), (5, (.v (.int .u64 s1.2.2)))] ∧ Hs σ []) (fun y1 x e σ => x = .exit 0 ∧ EnvHas e [(0, (.v (.int .u64 y1.1))), (1, (.v (.int .u64 y1.2.1))), (5, (.v (.int .u64 y1.2.2)))] ∧ Hs σ []) ⟨⟨rfl, rfl, rfl, trivial⟩, H⟩ ?_) ?_
  · intro s1 e σ hI z h
    obtain ⟨he, H⟩ := hI
    obtain ⟨e, rfl⟩ := he.ex
    unfold epactref01_common.s0 at h
    apply Runs.then
    apply Runs.then
    refine Runs.regionH 6 rfl H ?_; intro b3 σ H
    refine Ops.move (v := (.v (.int .u64 s1.1))) rfl rfl ?_
    refine Ops.int (m := s1.1) (m' := 0) (r := .bool (decide (s1.1 > 0))) rfl rfl rfl rfl rfl ?_
    refine Ops.move (v := (.v (.bool (decide (s1.1 > 0))))) rfl rfl ?_
    refine Ops.mid 3 (K1 := fun e σ => EnvHas e [(11, (.v (.bool ((decide (s1.1 > 0)) && (decide (s1.2.1 > 0)))))), (0, (.v (.int .u64 s1.1))), (1, (.v (.int .u64 s1.2.1))), (5, (.v (.int .u64 s1.2.2)))] ∧ Has σ (b3 + 6) (b3 + 6) []) rfl ?_ ?_
    · refine Ops.split rfl rfl ?_ ?_ <;> intro hc1
      · skip
        refine Ops.wanted rfl rfl ?_
        refine Ops.move (v := (.v (.int .u64 s1.2.1))) rfl rfl ?_
        refine Ops.wanted rfl rfl ?_
        refine Ops.int (m := s1.2.1) (m' := 0) (r := .bool (decide (s1.2.1 > 0))) rfl rfl rfl rfl rfl ?_
        refine Ops.pickT (v := (.v (.bool (decide (s1.2.1 > 0))))) rfl rfl rfl ?_
        apply Ops.nil
        exact ⟨⟨and_T hc1, rfl, rfl, rfl, trivial⟩, H.weak (by omega) (Nat.le_refl _)⟩
      · skip
        refine Ops.pass rfl rfl rfl ?_
        refine Ops.pass rfl rfl rfl ?_
        refine Ops.pickF (v := (.v (.bool false))) rfl rfl rfl ?_
        apply Ops.nil
        exact ⟨⟨and_F hc1, rfl, rfl, rfl, trivial⟩, H.weak (by omega) (Nat.le_refl _)⟩
    · rintro e σ ⟨he, H⟩
      obtain ⟨e, rfl⟩ := he.ex
      apply Ops.nil
      replace H := H.all
      refine Runs.whether (v := ((decide (s1.1 > 0)) && (decide (s1.2.1 > 0)))) rfl ?_ ?_ <;> intro hc2
      · replace h := cond_T hc2 h
        apply Runs.skip
        apply Runs.inBlock
        obtain ⟨y2, hj2, h⟩ := bind_some h
        refine Runs.mono (Q := fun x e σ => x = .normal ∧ EnvHas e [(0, (.v (.int .u64 y2.1))), (1, (.v (.int .u64 y2.2.1))), (5, (.v (.int .u64 y2.2.2)))] ∧ Hs σ []) ?_ ?_
        · replace h := hj2
          apply Runs.then
          refine Runs.regionH 8 rfl H ?_; intro b4 σ H
          refine Ops.move (v := (.v (.int .u64 s1.1))) rfl rfl ?_
          refine Ops.rem (m := s1.1) (m' := 2) rfl rfl (by decide) rfl ?_
          refine Ops.int (m := (s1.1.tmod 2)) (m' := 0) (r := .bool ((s1.1.tmod 2) == 0)) rfl rfl rfl rfl rfl ?_
          refine Ops.move (v := (.v (.bool ((s1.1.tmod 2) == 0)))) rfl rfl ?_
          refine Ops.mid 4 (K1 := fun e σ => EnvHas e [(19, (.v (.bool (((s1.1.tmod 2) == 0) && ((s1.2.1.tmod 2) == 0))))), (0, (.v (.int .u64 s1.1))), (1, (.v (.int .u64 s1.2.1))), (5, (.v (.int .u64 s1.2.2)))] ∧ Has σ (b4 + 8) (b4 + 8) []) rfl ?_ ?_
          · refine Ops.split rfl rfl ?_ ?_ <;> intro hc3
            · skip
              refine Ops.wanted rfl rfl ?_
              refine Ops.move (v := (.v (.int .u64 s1.2.1))) rfl rfl ?_
              refine Ops.wanted rfl rfl ?_
              refine Ops.rem (m := s1.2.1) (m' := 2) rfl rfl (by decide) rfl ?_
              refine Ops.wanted rfl rfl ?_
              refine Ops.int (m := (s1.2.1.tmod 2)) (m' := 0) (r := .bool ((s1.2.1.tmod 2) == 0)) rfl rfl rfl rfl rfl ?_
              refine Ops.pickT (v := (.v (.bool ((s1.2.1.tmod 2) == 0)))) rfl rfl rfl ?_
              apply Ops.nil
              exact ⟨⟨and_T hc3, rfl, rfl, rfl, trivial⟩, H.weak (by omega) (Nat.le_refl _)⟩
            · skip
              refine Ops.pass rfl rfl rfl ?_
              refine Ops.pass rfl rfl rfl ?_
              refine Ops.pass rfl rfl rfl ?_
              refine Ops.pickF (v := (.v (.bool false))) rfl rfl rfl ?_
              apply Ops.nil
              exact ⟨⟨and_F hc3, rfl, rfl, rfl, trivial⟩, H.weak (by omega) (Nat.le_refl _)⟩
          · rintro e σ ⟨he, H⟩
            obtain ⟨e, rfl⟩ := he.ex
            apply Ops.nil
            replace H := H.all
            refine Runs.whether (v := (((s1.1.tmod 2) == 0) && ((s1.2.1.tmod 2) == 0))) rfl ?_ ?_ <;> intro hc4
            · replace h := cond_T hc4 h
              refine Runs.regionH 9 rfl H ?_; intro b5 σ H
              refine Ops.move (v := (.v (.int .u64 s1.1))) rfl rfl ?_
              refine Ops.quo (m := s1.1) (m' := 2) rfl rfl (by decide) rfl ?_
              refine Ops.move (v := (.v (.int .u64 s1.2.1))) rfl rfl ?_
              refine Ops.quo (m := s1.2.1) (m' := 2) rfl rfl (by decide) rfl ?_
              refine Ops.move (v := (.v (.int .u64 s1.2.2))) rfl rfl ?_
              refine Ops.int (m := s1.2.2) (m' := 2) (r := .int .u64 (IntKind.u64.wrap (s1.2.2 * 2))) rfl rfl rfl rfl rfl ?_
              refine Ops.assign (v := (.v (.int .u64 (IntKind.u64.wrap (s1.1.tdiv 2))))) rfl rfl ?_
              refine Ops.assign (v := (.v (.int .u64 (IntKind.u64.wrap (s1.2.1.tdiv 2))))) rfl rfl ?_
              refine Ops.assign (v := (.v (.int .u64 (IntKind.u64.wrap (s1.2.2 * 2))))) rfl rfl ?_
              apply Ops.nil
              replace H := H.all
              replace h := Option.some.inj h; subst h
              exact ⟨rfl, ⟨rfl, rfl, rfl, trivial⟩, H⟩
            · replace h := cond_F hc4 h
              apply Runs.then
              refine Runs.regionH 3 rfl H ?_; intro b6 σ H
              refine Ops.move (v := (.v (.int .u64 s1.1))) rfl rfl ?_
              refine Ops.rem (m := s1.1) (m' := 2) rfl rfl (by decide) rfl ?_
              refine Ops.int (m := (s1.1.tmod 2)) (m' := 0) (r := .bool ((s1.1.tmod 2) == 0)) rfl rfl rfl rfl rfl ?_
              apply Ops.nil
              replace H := H.all
              refine Runs.whether (v := ((s1.1.tmod 2) == 0)) rfl ?_ ?_ <;> intro hc5
              · replace h := cond_T hc5 h
                refine Runs.regionH 3 rfl H ?_; intro b7 σ H
                refine Ops.move (v := (.v (.int .u64 s1.1))) rfl rfl ?_
                refine Ops.quo (m := s1.1) (m' := 2) rfl rfl (by decide) rfl ?_
                refine Ops.assign (v := (.v (.int .u64 (IntKind.u64.wrap (s1.1.tdiv 2))))) rfl rfl ?_
                apply Ops.nil
                replace H := H.all
                replace h := Option.some.inj h; subst h
                exact ⟨rfl, ⟨rfl, rfl, rfl, trivial⟩, H⟩
              · replace h := cond_F hc5 h
                apply Runs.then
                refine Runs.regionH 3 rfl H ?_; intro b8 σ H
                refine Ops.move (v := (.v (.int .u64 s1.2.1))) rfl rfl ?_
                refine Ops.rem (m := s1.2.1) (m' := 2) rfl rfl (by decide) rfl ?_
                refine Ops.int (m := (s1.2.1.tmod 2)) (m' := 0) (r := .bool ((s1.2.1.tmod 2) == 0)) rfl rfl rfl rfl rfl ?_
                apply Ops.nil
                replace H := H.all
                refine Runs.whether (v := ((s1.2.1.tmod 2) == 0)) rfl ?_ ?_ <;> intro hc6
                · replace h := cond_T hc6 h
                  refine Runs.regionH 3 rfl H ?_; intro b9 σ H
                  refine Ops.move (v := (.v (.int .u64 s1.2.1))) rfl rfl ?_
                  refine Ops.quo (m := s1.2.1) (m' := 2) rfl rfl (by decide) rfl ?_
                  refine Ops.assign (v := (.v (.int .u64 (IntKind.u64.wrap (s1.2.1.tdiv 2))))) rfl rfl ?_
                  apply Ops.nil
                  replace H := H.all
                  replace h := Option.some.inj h; subst h
                  exact ⟨rfl, ⟨rfl, rfl, rfl, trivial⟩, H⟩
                · replace h := cond_F hc6 h
                  apply Runs.then
                  refine Runs.regionH 3 rfl H ?_; intro b10 σ H
                  refine Ops.move (v := (.v (.int .u64 s1.1))) rfl rfl ?_
                  refine Ops.move (v := (.v (.int .u64 s1.2.1))) rfl rfl ?_
                  refine Ops.int (m := s1.1) (m' := s1.2.1) (r := .bool (decide (s1.1 ≥ s1.2.1))) rfl rfl rfl rfl rfl ?_
                  apply Ops.nil
                  replace H := H.all
                  refine Runs.whether (v := (decide (s1.1 ≥ s1.2.1))) rfl ?_ ?_ <;> intro hc7
                  · replace h := cond_T hc7 h
                    refine Runs.regionH 4 rfl H ?_; intro b11 σ H
                    refine Ops.move (v := (.v (.int .u64 s1.1))) rfl rfl ?_
                    refine Ops.move (v := (.v (.int .u64 s1.2.1))) rfl rfl ?_
                    refine Ops.int (m := s1.1) (m' := s1.2.1) (r := .int .u64 (IntKind.u64.wrap (s1.1 - s1.2.1))) rfl rfl rfl rfl rfl ?_
                    refine Ops.assign (v := (.v (.int .u64 (IntKind.u64.wrap (s1.1 - s1.2.1))))) rfl rfl ?_
                    apply Ops.nil
                    replace H := H.all
                    replace h := Option.some.inj h; subst h
                    exact ⟨rfl, ⟨rfl, rfl, rfl, trivial⟩, H⟩
                  · replace h := cond_F hc7 h
                    refine Runs.regionH 4 rfl H ?_; intro b12 σ H
                    refine Ops.move (v := (.v (.int .u64 s1.2.1))) rfl rfl ?_
                    refine Ops.move (v := (.v (.int .u64 s1.1))) rfl rfl ?_
                    refine Ops.int (m := s1.2.1) (m' := s1.1) (r := .int .u64 (IntKind.u64.wrap (s1.2.1 - s1.1))) rfl rfl rfl rfl rfl ?_
                    refine Ops.assign (v := (.v (.int .u64 (IntKind.u64.wrap (s1.2.1 - s1.1))))) rfl rfl ?_
                    apply Ops.nil
                    replace H := H.all
                    replace h := Option.some.inj h; subst h
                    exact ⟨rfl, ⟨rfl, rfl, rfl, trivial⟩, H⟩
        · rintro x e σ ⟨rfl, he, H⟩
          obtain ⟨e, rfl⟩ := he.ex
          replace h := Option.some.inj h; subst h
          exact ⟨rfl, ⟨rfl, rfl, rfl, trivial⟩, H⟩
      · replace h := cond_F hc2 h
        apply Runs.exit
        replace h := Option.some.inj h; subst h
        exact ⟨nofun, ⟨rfl, ⟨rfl, rfl, rfl, trivial⟩, H⟩⟩
  · rintro x e σ ⟨rfl, he, H⟩
    obtain ⟨e, rfl⟩ := he.ex
    apply Runs.then
    refine Runs.regionH 6 rfl H ?_; intro b13 σ H
    refine Ops.move (v := (.v (.int .u64 y1.1))) rfl rfl ?_
    refine Ops.move (v := (.v (.int .u64 y1.2.1))) rfl rfl ?_
    refine Ops.int (m := y1.1) (m' := y1.2.1) (r := .int .u64 (IntKind.u64.wrap (y1.1 + y1.2.1))) rfl rfl rfl rfl rfl ?_
    refine Ops.move (v := (.v (.int .u64 y1.2.2))) rfl rfl ?_
    refine Ops.int (m := (IntKind.u64.wrap (y1.1 + y1.2.1))) (m' := y1.2.2) (r := .int .u64 (IntKind.u64.wrap ((IntKind.u64.wrap (y1.1 + y1.2.1)) * y1.2.2))) rfl rfl rfl rfl rfl ?_
    refine Ops.assign (v := (.v (.int .u64 (IntKind.u64.wrap ((IntKind.u64.wrap (y1.1 + y1.2.1)) * y1.2.2))))) rfl rfl ?_
    apply Ops.nil
    replace H := H.all
    apply Runs.ret
    replace h := Option.some.inj h; subst h
    exact (Ends.H (xs := [(.v (.int .u64 (IntKind.u64.wrap ((IntKind.u64.wrap (y1.1 + y1.2.1)) * y1.2.2))))]) (.inr rfl) H (.tmp (v := (.v (.int .u64 (IntKind.u64.wrap ((IntKind.u64.wrap (y1.1 + y1.2.1)) * y1.2.2))))) rfl .nil) (.one (.c (.v _))))

set_option maxRecDepth 100000 in
set_option maxHeartbeats 4000000 in
theorem epactref01_Gcd_fn {a : Int} {b : Int} {r : Int × Int} (h : epactref01_Gcd a b = some r) : Fn CX 25 [(.v (.int .i64 a)), (.v (.int .i64 b))] (.tup [(.v (.int .i64 r.1)), (.v (.int .i64 r.2))]) := by
  refine Fn.ends Try.func25 rfl rfl rfl rfl rfl rfl ?_
  have H : Hs (⟨0, fun _ => .none⟩ : Heap) [] := Has.nil (Nat.le_refl _)
  generalize (⟨0, fun _ => .none⟩ : Heap) = σ at H ⊢
  unfold epactref01_Gcd at h
  apply Runs.then
  refine Runs.regionH 2 rfl H ?_; intro b1 σ H
  refine Ops.assign (v := (.v (.int .i64 0))) rfl rfl ?_
  refine Ops.assign (v := (.v (.int .i64 0))) rfl rfl ?_
  apply Ops.nil
  replace H := H.all
  apply Runs.then
  refine Runs.regionH 6 rfl H ?_; intro b2 σ H
  refine Ops.move (v := (.v (.int .i64 a))) rfl rfl ?_
  refine Ops.call (ys := [(.v (.int .i64 a))]) (r := (.v (.int .u64 (epactref01_size a)))) rfl (epactref01_size_fn rfl) rfl ?_
  refine Ops.move (v := (.v (.int .i64 b))) rfl rfl ?_
  refine Ops.call (ys := [(.v (.int .i64 b))]) (r := (.v (.int .u64 (epactref01_size b)))) rfl (epactref01_size_fn rfl) rfl ?_
  obtain ⟨x1, q1, h⟩ := bind_some h
  refine Ops.call (ys := [(.v (.int .u64 (epactref01_size a))), (.v (.int .u64 (epactref01_size b)))]) (r := (.v (.int .u64 x1))) rfl (epactref01_common_fn q1) rfl ?_
  refine Ops.assign (v := (.v (.int .u64 x1))) rfl rfl ?_
  apply Ops.nil
  replace H := H.all
  apply Runs.then
  apply Runs.then
  refine Runs.regionH 2 rfl H ?_; intro b3 σ H
  refine Ops.move (v := (.v (.int .u64 x1))) rfl rfl ?_
  refine Ops.int (m := x1) (m' := 9223372036854775807) (r := .bool (decide (x1 > 9223372036854775807))) rfl rfl rfl rfl rfl ?_
  apply Ops.nil
  replace H := H.all
  refine Runs.whether (v := (decide (x1 > 9223372036854775807))) rfl ?_ ?_ <;> intro hc1
  · replace h := cond_T hc1 h
    apply Runs.then
    refine Runs.regionH 2 rfl H ?_; intro b4 σ H
    refine Ops.assign (v := (.v (.int .i64 0))) rfl rfl ?_
    refine Ops.assign (v := (.v (.int .i64 10))) rfl rfl ?_
    apply Ops.nil
    replace H := H.all
    apply Runs.ret
    replace h := Option.some.inj h; subst h
    exact (Ends.H (xs := [(.v (.int .i64 0)), (.v (.int .i64 10))]) (.inr rfl) H (.tmp (v := (.v (.int .i64 0))) rfl (.tmp (v := (.v (.int .i64 10))) rfl .nil)) (.two (.cons (.c (.v _)) (.cons (.c (.v _)) .nil))))
  · replace h := cond_F hc1 h
    apply Runs.skip
    apply Runs.then
    refine Runs.regionH 4 rfl H ?_; intro b5 σ H
    refine Ops.move (v := (.v (.int .u64 x1))) rfl rfl ?_
    refine Ops.conv (m := x1) rfl rfl rfl rfl ?_
    refine Ops.assign (v := (.v (.int .i64 (w64 x1)))) rfl rfl ?_
    refine Ops.assign (v := (.v (.int .i64 0))) rfl rfl ?_
    apply Ops.nil
    replace H := H.all
    apply Runs.ret
    replace h := Option.some.inj h; subst h
    exact (Ends.H (xs := [(.v (.int .i64 (w64 x1))), (.v (.int .i64 0))]) (.inr rfl) H (.tmp (v := (.v (.int .i64 (w64 x1)))) rfl (.tmp (v := (.v (.int .i64 0))) rfl .nil)) (.two (.cons (.c (.v _)) (.cons (.c (.v _)) .nil))))

set_option maxRecDepth 100000 in
set_option maxHeartbeats 4000000 in
theorem safe_Lcm_fn {a : Int} {b : Int} {r : Int × Int} (h : safe_Lcm a b = some r) : Fn CX 19 [(.v (.int .i64 a)), (.v (.int .i64 b))] (.tup [(.v (.int .i64 r.1)), (.v (.int .i64 r.2))]) := by
  refine Fn.ends Try.func19 rfl rfl rfl rfl rfl rfl ?_
  have H : Hs (⟨0, fun _ => .none⟩ : Heap) [] := Has.nil (Nat.le_refl _)
  generalize (⟨0, fun _ => .none⟩ : Heap) = σ at H ⊢
  unfold safe_Lcm at h
  apply Runs.then
  refine Runs.regionH 2 rfl H ?_; intro b1 σ H
  refine Ops.assign (v := (.v (.int .i64 0))) rfl rfl ?_
  refine Ops.assign (v := (.v (.int .i64 0))) rfl rfl ?_
  apply Ops.nil
  replace H := H.all
  apply Runs.then
  refine Runs.regionH 6 rfl H ?_; intro b2 σ H
  refine Ops.move (v := (.v (.int .i64 a))) rfl rfl ?_
  refine Ops.call (ys := [(.v (.int .i64 a))]) (r := (.v (.int .u64 (safe_size a)))) rfl (safe_size_fn rfl) rfl ?_
  refine Ops.move (v := (.v (.int .i64 b))) rfl rfl ?_
  refine Ops.call (ys := [(.v (.int .i64 b))]) (r := (.v (.int .u64 (safe_size b)))) rfl (safe_size_fn rfl) rfl ?_
  refine Ops.assign (v := (.v (.int .u64 (safe_size a)))) rfl rfl ?_
  refine Ops.assign (v := (.v (.int .u64 (safe_size b)))) rfl rfl ?_
  apply Ops.nil
  replace H := H.all
  apply Runs.then
  apply Runs.then
  refine Runs.regionH 6 rfl H ?_; intro b3 σ H
  refine Ops.move (v := (.v (.int .u64 (safe_size a)))) rfl rfl ?_
  refine Ops.int (m := (safe_size a)) (m' := 0) (r := .bool ((safe_size a) == 0)) rfl rfl rfl rfl rfl ?_
  refine Ops.move (v := (.v (.bool ((safe_size a) == 0)))) rfl rfl ?_
  refine Ops.mid 3 (K1 := fun e σ => EnvHas e [(19, (.v (.bool (((safe_size a) == 0) || ((safe_size b) == 0))))), (6, (.v (.int .u64 (safe_size a)))), (7, (.v (.int .u64 (safe_size b))))] ∧ Has σ (b3 + 6) (b3 + 6) []) rfl ?_ ?_
  · refine Ops.split rfl rfl ?_ ?_ <;> intro hc1
    · skip
      refine Ops.pass rfl rfl rfl ?_
      refine Ops.pass rfl rfl rfl ?_
      refine Ops.pickT (v := (.v (.bool true))) rfl rfl rfl ?_
      apply Ops.nil
      exact ⟨⟨or_T hc1, rfl, rfl, trivial⟩, H.weak (by omega) (Nat.le_refl _)⟩
    · skip
      refine Ops.wanted rfl rfl ?_
      refine Ops.move (v := (.v (.int .u64 (safe_size b)))) rfl rfl ?_
      refine Ops.wanted rfl rfl ?_
      refine Ops.int (m := (safe_size b)) (m' := 0) (r := .bool ((safe_size b) == 0)) rfl rfl rfl rfl rfl ?_
      refine Ops.pickF (v := (.v (.bool ((safe_size b) == 0)))) rfl rfl rfl ?_
      apply Ops.nil
      exact ⟨⟨or_F hc1, rfl, rfl, trivial⟩, H.weak (by omega) (Nat.le_refl _)⟩
  · rintro e σ ⟨he, H⟩
    obtain ⟨e, rfl⟩ := he.ex
    apply Ops.nil
    replace H := H.all
    refine Runs.whether (v := (((safe_size a) == 0) || ((safe_size b) == 0))) rfl ?_ ?_ <;> intro hc2
    · replace h := cond_T hc2 h
      apply Runs.then
      refine Runs.regionH 2 rfl H ?_; intro b4 σ H
      refine Ops.assign (v := (.v (.int .i64 0))) rfl rfl ?_
      refine Ops.assign (v := (.v (.int .i64 0))) rfl rfl ?_
      apply Ops.nil
      replace H := H.all
      apply Runs.ret
      replace h := Option.some.inj h; subst h
      exact (Ends.H (xs := [(.v (.int .i64 0)), (.v (.int .i64 0))]) (.inr rfl) H (.tmp (v := (.v (.int .i64 0))) rfl (.tmp (v := (.v (.int .i64 0))) rfl .nil)) (.two (.cons (.c (.v _)) (.cons (.c (.v _)) .nil))))
    · replace h := cond_F hc2 h
      apply Runs.skip
      apply Runs.then
      refine Runs.regionH 12 rfl H ?_; intro b5 σ H
      refine Ops.move (v := (.v (.int .u64 (safe_size a)))) rfl rfl ?_
      refine Ops.move (v := (.v (.int .u64 (safe_size a)))) rfl rfl ?_
      refine Ops.move (v := (.v (.int .u64 (safe_size b)))) rfl rfl ?_
      obtain ⟨x1, q1, h⟩ := bind_some h
      refine Ops.call (ys := [(.v (.int .u64 (safe_size a))), (.v (.int .u64 (safe_size b)))]) (r := (.v (.int .u64 x1))) rfl (safe_gcd_fn q1) rfl ?_
      obtain ⟨u1, q2, h⟩ := bind_some h
      refine Ops.quo (m := (safe_size a)) (m' := x1) rfl rfl (nz_ne q2) rfl ?_
      refine Ops.move (v := (.v (.int .u64 (safe_size b)))) rfl rfl ?_
      refine Ops.call (ys := [(.v (.int .u64 (IntKind.u64.wrap ((safe_size a).tdiv x1)))), (.v (.int .u64 (safe_size b)))]) (r := (.tup [(.v (.int .u64 (math_bits_Mul64 (IntKind.u64.wrap ((safe_size a).tdiv x1)) (safe_size b)).1)), (.v (.int .u64 (math_bits_Mul64 (IntKind.u64.wrap ((safe_size a).tdiv x1)) (safe_size b)).2))])) rfl (math_bits_Mul64_fn rfl) rfl ?_
      refine Ops.move (v := (.tup [(.v (.int .u64 (math_bits_Mul64 (IntKind.u64.wrap ((safe_size a).tdiv x1)) (safe_size b)).1)), (.v (.int .u64 (math_bits_Mul64 (IntKind.u64.wrap ((safe_size a).tdiv x1)) (safe_size b)).2))])) rfl rfl ?_
      refine Ops.extract (v := (.v (.int .u64 (math_bits_Mul64 (IntKind.u64.wrap ((safe_size a).tdiv x1)) (safe_size b)).1))) rfl rfl rfl ?_
      refine Ops.extract (v := (.v (.int .u64 (math_bits_Mul64 (IntKind.u64.wrap ((safe_size a).tdiv x1)) (safe_size b)).2))) rfl rfl rfl ?_
      refine Ops.assign (v := (.v (.int .u64 (math_bits_Mul64 (IntKind.u64.wrap ((safe_size a).tdiv x1)) (safe_size b)).1))) rfl rfl ?_
      refine Ops.assign (v := (.v (.int .u64 (math_bits_Mul64 (IntKind.u64.wrap ((safe_size a).tdiv x1)) (safe_size b)).2))) rfl rfl ?_
      apply Ops.nil
      replace H := H.all
      apply Runs.then
      apply Runs.then
      refine Runs.regionH 2 rfl H ?_; intro b6 σ H
      refine Ops.move (v := (.v (.int .u64 (math_bits_Mul64 (IntKind.u64.wrap ((safe_size a).tdiv x1)) (safe_size b)).1))) rfl rfl ?_
      refine Ops.int (m := (math_bits_Mul64 (IntKind.u64.wrap ((safe_size a).tdiv x1)) (safe_size b)).1) (m' := 0) (r := .bool (((math_bits_Mul64 (IntKind.u64.wrap ((safe_size a).tdiv x1)) (safe_size b)).1) != 0)) rfl rfl rfl rfl rfl ?_
      apply Ops.nil
      replace H := H.all
      refine Runs.whether (v := (((math_bits_Mul64 (IntKind.u64.wrap ((safe_size a).tdiv x1)) (safe_size b)).1) != 0)) rfl ?_ ?_ <;> intro hc3
      · replace h := cond_T hc3 h
        apply Runs.then
        refine Runs.regionH 2 rfl H ?_; intro b7 σ H
        refine Ops.assign (v := (.v (.int .i64 0))) rfl rfl ?_
        refine Ops.assign (v := (.v (.int .i64 10))) rfl rfl ?_
        apply Ops.nil
        replace H := H.all
        apply Runs.ret
        replace h := Option.some.inj h; subst h
        exact (Ends.H (xs := [(.v (.int .i64 0)), (.v (.int .i64 10))]) (.inr rfl) H (.tmp (v := (.v (.int .i64 0))) rfl (.tmp (v := (.v (.int .i64 10))) rfl .nil)) (.two (.cons (.c (.v _)) (.cons (.c (.v _)) .nil))))
      · replace h := cond_F hc3 h
        apply Runs.skip
        apply Runs.then
        refine Runs.regionH 6 rfl H ?_; intro b8 σ H
        refine Ops.move (v := (.v (.int .u64 (math_bits_Mul64 (IntKind.u64.wrap ((safe_size a).tdiv x1)) (safe_size b)).2))) rfl rfl ?_
        refine Ops.call (ys := [(.v (.int .u64 (math_bits_Mul64 (IntKind.u64.wrap ((safe_size a).tdiv x1)) (safe_size b)).2)), (.v (.bool false))]) (r := (.tup [(.v (.int .i64 (safe_signed ((math_bits_Mul64 (IntKind.u64.wrap ((safe_size a).tdiv x1)) (safe_size b)).2) false).1)), (.v (.int .i64 (safe_signed ((math_bits_Mul64 (IntKind.u64.wrap ((safe_size a).tdiv x1)) (safe_size b)).2) false).2))])) rfl (safe_signed_fn rfl) rfl ?_
        refine Ops.extract (v := (.v (.int .i64 (safe_signed ((math_bits_Mul64 (IntKind.u64.wrap ((safe_size a).tdiv x1)) (safe_size b)).2) false).1))) rfl rfl rfl ?_
        refine Ops.extract (v := (.v (.int .i64 (safe_signed ((math_bits_Mul64 (IntKind.u64.wrap ((safe_size a).tdiv x1)) (safe_size b)).2) false).2))) rfl rfl rfl ?_
        refine Ops.assign (v := (.v (.int .i64 (safe_signed ((math_bits_Mul64 (IntKind.u64.wrap ((safe_size a).tdiv x1)) (safe_size b)).2) false).1))) rfl rfl ?_
        refine Ops.assign (v := (.v (.int .i64 (safe_signed ((math_bits_Mul64 (IntKind.u64.wrap ((safe_size a).tdiv x1)) (safe_size b)).2) false).2))) rfl rfl ?_
        apply Ops.nil
        replace H := H.all
        apply Runs.ret
        replace h := Option.some.inj h; subst h
        exact (Ends.H (xs := [(.v (.int .i64 (safe_signed ((math_bits_Mul64 (IntKind.u64.wrap ((safe_size a).tdiv x1)) (safe_size b)).2) false).1)), (.v (.int .i64 (safe_signed ((math_bits_Mul64 (IntKind.u64.wrap ((safe_size a).tdiv x1)) (safe_size b)).2) false).2))]) (.inr rfl) H (.tmp (v := (.v (.int .i64 (safe_signed ((math_bits_Mul64 (IntKind.u64.wrap ((safe_size a).tdiv x1)) (safe_size b)).2) false).1))) rfl (.tmp (v := (.v (.int .i64 (safe_signed ((math_bits_Mul64 (IntKind.u64.wrap ((safe_size a).tdiv x1)) (safe_size b)).2) false).2))) rfl .nil)) (.two (.cons (.c (.v _)) (.cons (.c (.v _)) .nil))))

set_option maxRecDepth 100000 in
set_option maxHeartbeats 4000000 in
theorem epactref01_Lcm_fn {a : Int} {b : Int} {r : Int × Int} (h : epactref01_Lcm a b = some r) : Fn CX 26 [(.v (.int .i64 a)), (.v (.int .i64 b))] (.tup [(.v (.int .i64 r.1)), (.v (.int .i64 r.2))]) := by
  refine Fn.ends Try.func26 rfl rfl rfl rfl rfl rfl ?_
  have H : Hs (⟨0, fun _ => .none⟩ : Heap) [] := Has.nil (Nat.le_refl _)
  generalize (⟨0, fun _ => .none⟩ : Heap) = σ at H ⊢
  unfold epactref01_Lcm at h
  apply Runs.then
  refine Runs.regionH 2 rfl H ?_; intro b1 σ H
  refine Ops.assign (v := (.v (.int .i64 0))) rfl rfl ?_
  refine Ops.assign (v := (.v (.int .i64 0))) rfl rfl ?_
  apply Ops.nil
  replace H := H.all
  apply Runs.then
  apply Runs.then
  refine Runs.regionH 6 rfl H ?_; intro b2 σ H
  refine Ops.move (v := (.v (.int .i64 a))) rfl rfl ?_
  refine Ops.int (m := a) (m' := 0) (r := .bool (a == 0)) rfl rfl rfl rfl rfl ?_
  refine Ops.move (v := (.v (.bool (a == 0)))) rfl rfl ?_
  refine Ops.mid 3 (K1 := fun e σ => EnvHas e [(15, (.v (.bool ((a == 0) || (b == 0))))), (0, (.v (.int .i64 a))), (1, (.v (.int .i64 b)))] ∧ Has σ (b2 + 6) (b2 + 6) []) rfl ?_ ?_
  · refine Ops.split rfl rfl ?_ ?_ <;> intro hc1
    · skip
      refine Ops.pass rfl rfl rfl ?_
      refine Ops.pass rfl rfl rfl ?_
      refine Ops.pickT (v := (.v (.bool true))) rfl rfl rfl ?_
      apply Ops.nil
      exact ⟨⟨or_T hc1, rfl, rfl, trivial⟩, H.weak (by omega) (Nat.le_refl _)⟩
    · skip
      refine Ops.wanted rfl rfl ?_
      refine Ops.move (v := (.v (.int .i64 b))) rfl rfl ?_
      refine Ops.wanted rfl rfl ?_
      refine Ops.int (m := b) (m' := 0) (r := .bool (b == 0)) rfl rfl rfl rfl rfl ?_
      refine Ops.pickF (v := (.v (.bool (b == 0)))) rfl rfl rfl ?_
      apply Ops.nil
      exact ⟨⟨or_F hc1, rfl, rfl, trivial⟩, H.weak (by omega) (Nat.le_refl _)⟩
  · rintro e σ ⟨he, H⟩
    obtain ⟨e, rfl⟩ := he.ex
    apply Ops.nil
    replace H := H.all
    refine Runs.whether (v := ((a == 0) || (b == 0))) rfl ?_ ?_ <;> intro hc2
    · replace h := cond_T hc2 h
      apply Runs.then
      refine Runs.regionH 2 rfl H ?_; intro b3 σ H
      refine Ops.assign (v := (.v (.int .i64 0))) rfl rfl ?_
      refine Ops.assign (v := (.v (.int .i64 0))) rfl rfl ?_
      apply Ops.nil
      replace H := H.all
      apply Runs.ret
      replace h := Option.some.inj h; subst h
      exact (Ends.H (xs := [(.v (.int .i64 0)), (.v (.int .i64 0))]) (.inr rfl) H (.tmp (v := (.v (.int .i64 0))) rfl (.tmp (v := (.v (.int .i64 0))) rfl .nil)) (.two (.cons (.c (.v _)) (.cons (.c (.v _)) .nil))))
    · replace h := cond_F hc2 h
      apply Runs.skip
      apply Runs.then
      refine Runs.regionH 9 rfl H ?_; intro b4 σ H
      refine Ops.move (v := (.v (.int .i64 a))) rfl rfl ?_
      refine Ops.call (ys := [(.v (.int .i64 a))]) (r := (.v (.int .u64 (epactref01_size a)))) rfl (epactref01_size_fn rfl) rfl ?_
      refine Ops.move (v := (.v (.int .i64 a))) rfl rfl ?_
      refine Ops.call (ys := [(.v (.int .i64 a))]) (r := (.v (.int .u64 (epactref01_size a)))) rfl (epactref01_size_fn rfl) rfl ?_
      refine Ops.move (v := (.v (.int .i64 b))) rfl rfl ?_
      refine Ops.call (ys := [(.v (.int .i64 b))]) (r := (.v (.int .u64 (epactref01_size b)))) rfl (epactref01_size_fn rfl) rfl ?_
      obtain ⟨x1, q1, h⟩ := bind_some h
      refine Ops.call (ys := [(.v (.int .u64 (epactref01_size a))), (.v (.int .u64 (epactref01_size b)))]) (r := (.v (.int .u64 x1))) rfl (epactref01_common_fn q1) rfl ?_
      obtain ⟨u1, q2, h⟩ := bind_some h
      refine Ops.quo (m := (epactref01_size a)) (m' := x1) rfl rfl (nz_ne q2) rfl ?_
      obtain ⟨x2, q3, h⟩ := bind_some h
      refine Ops.assign (v := (.v (.int .u64 x2))) (by rw [← Option.some.inj q3]; rfl) rfl ?_
      apply Ops.nil
      replace H := H.all
      apply Runs.then
      refine Runs.regionH 3 rfl H ?_; intro b5 σ H
      obtain ⟨x3, q4, h⟩ := bind_some h
      refine Ops.call (ys := [(.v (.int .i64 0))]) (r := (.agg [(.v (.bool x3.minus)), (.v (.int .u32 x3.digits.d0)), (.v (.int .u32 x3.digits.d1)), (.v (.int .u32 x3.digits.d2)), (.v (.int .u32 x3.digits.d3)), (.v (.int .u32 x3.digits.d4)), (.v (.int .u32 x3.digits.d5)), (.v (.int .u32 x3.digits.d6)), (.v (.int .u32 x3.digits.d7)), (.v (.int .u32 x3.digits.d8))])) rfl (epactref01_of_fn q4) rfl ?_
      refine Ops.allocH (cs := [(.v (.bool false)), (.v (.int .u32 0)), (.v (.int .u32 0)), (.v (.int .u32 0)), (.v (.int .u32 0)), (.v (.int .u32 0)), (.v (.int .u32 0)), (.v (.int .u32 0)), (.v (.int .u32 0)), (.v (.int .u32 0))]) H (by omega) (by omega) rfl rfl ?_; intro σ H
      refine Ops.storeH (off := 0) (v := (.agg [(.v (.bool x3.minus)), (.v (.int .u32 x3.digits.d0)), (.v (.int .u32 x3.digits.d1)), (.v (.int .u32 x3.digits.d2)), (.v (.int .u32 x3.digits.d3)), (.v (.int .u32 x3.digits.d4)), (.v (.int .u32 x3.digits.d5)), (.v (.int .u32 x3.digits.d6)), (.v (.int .u32 x3.digits.d7)), (.v (.int .u32 x3.digits.d8))])) (ys := [(.v (.bool x3.minus)), (.v (.int .u32 x3.digits.d0)), (.v (.int .u32 x3.digits.d1)), (.v (.int .u32 x3.digits.d2)), (.v (.int .u32 x3.digits.d3)), (.v (.int .u32 x3.digits.d4)), (.v (.int .u32 x3.digits.d5)), (.v (.int .u32 x3.digits.d6)), (.v (.int .u32 x3.digits.d7)), (.v (.int .u32 x3.digits.d8))]) (cells' := [(.v (.bool x3.minus)), (.v (.int .u32 x3.digits.d0)), (.v (.int .u32 x3.digits.d1)), (.v (.int .u32 x3.digits.d2)), (.v (.int .u32 x3.digits.d3)), (.v (.int .u32 x3.digits.d4)), (.v (.int .u32 x3.digits.d5)), (.v (.int .u32 x3.digits.d6)), (.v (.int .u32 x3.digits.d7)), (.v (.int .u32 x3.digits.d8))]) H 0 rfl rfl rfl rfl rfl rfl rfl rfl rfl nofun ?_; intro σ H
      apply Ops.nil
      replace H := H.all
      apply Runs.then
      refine Runs.regionH 4 rfl H ?_; intro b6 σ H
      refine Ops.move (v := (.v (.int .i64 b))) rfl rfl ?_
      obtain ⟨x4, q5, h⟩ := bind_some h
      refine Ops.call (ys := [(.v (.int .i64 b))]) (r := (.agg [(.v (.bool x4.minus)), (.v (.int .u32 x4.digits.d0)), (.v (.int .u32 x4.digits.d1)), (.v (.int .u32 x4.digits.d2)), (.v (.int .u32 x4.digits.d3)), (.v (.int .u32 x4.digits.d4)), (.v (.int .u32 x4.digits.d5)), (.v (.int .u32 x4.digits.d6)), (.v (.int .u32 x4.digits.d7)), (.v (.int .u32 x4.digits.d8))])) rfl (epactref01_of_fn q5) rfl ?_
      refine Ops.allocH (cs := [(.v (.bool false)), (.v (.int .u32 0)), (.v (.int .u32 0)), (.v (.int .u32 0)), (.v (.int .u32 0)), (.v (.int .u32 0)), (.v (.int .u32 0)), (.v (.int .u32 0)), (.v (.int .u32 0)), (.v (.int .u32 0))]) H (by omega) (by omega) rfl rfl ?_; intro σ H
      refine Ops.storeH (off := 0) (v := (.agg [(.v (.bool x4.minus)), (.v (.int .u32 x4.digits.d0)), (.v (.int .u32 x4.digits.d1)), (.v (.int .u32 x4.digits.d2)), (.v (.int .u32 x4.digits.d3)), (.v (.int .u32 x4.digits.d4)), (.v (.int .u32 x4.digits.d5)), (.v (.int .u32 x4.digits.d6)), (.v (.int .u32 x4.digits.d7)), (.v (.int .u32 x4.digits.d8))])) (ys := [(.v (.bool x4.minus)), (.v (.int .u32 x4.digits.d0)), (.v (.int .u32 x4.digits.d1)), (.v (.int .u32 x4.digits.d2)), (.v (.int .u32 x4.digits.d3)), (.v (.int .u32 x4.digits.d4)), (.v (.int .u32 x4.digits.d5)), (.v (.int .u32 x4.digits.d6)), (.v (.int .u32 x4.digits.d7)), (.v (.int .u32 x4.digits.d8))]) (cells' := [(.v (.bool x4.minus)), (.v (.int .u32 x4.digits.d0)), (.v (.int .u32 x4.digits.d1)), (.v (.int .u32 x4.digits.d2)), (.v (.int .u32 x4.digits.d3)), (.v (.int .u32 x4.digits.d4)), (.v (.int .u32 x4.digits.d5)), (.v (.int .u32 x4.digits.d6)), (.v (.int .u32 x4.digits.d7)), (.v (.int .u32 x4.digits.d8))]) H 0 rfl rfl rfl rfl rfl rfl rfl rfl rfl nofun ?_; intro σ H
      apply Ops.nil
      replace H := H.all
      apply Runs.then
      refine Runs.regionH 2 rfl H ?_; intro b7 σ H
      refine Ops.fieldAddrH (off := 0) (fo := 0) H 0 rfl rfl rfl rfl rfl nofun rfl ?_
      refine Ops.storeH (off := 0) (v := (.v (.bool false))) (ys := [(.v (.bool false))]) (cells' := [(.v (.bool false)), (.v (.int .u32 x4.digits.d0)), (.v (.int .u32 x4.digits.d1)), (.v (.int .u32 x4.digits.d2)), (.v (.int .u32 x4.digits.d3)), (.v (.int .u32 x4.digits.d4)), (.v (.int .u32 x4.digits.d5)), (.v (.int .u32 x4.digits.d6)), (.v (.int .u32 x4.digits.d7)), (.v (.int .u32 x4.digits.d8))]) H 0 rfl rfl rfl rfl rfl rfl rfl rfl rfl nofun ?_; intro σ H
      apply Ops.nil
      replace H := H.all
      apply Runs.then
      apply Runs.then
      refine Runs.regionH 1 rfl H ?_; intro b8 σ H
      refine Ops.assign (v := (.v (.int .i64 0))) rfl rfl ?_
      apply Ops.nil
      replace H := H.all
      apply Runs.inBlock
      apply Runs.again
      apply Runs.then
      apply Runs.then
      refine Runs.regionH 2 rfl H ?_; intro b9 σ H
      refine Ops.move (v := (.v (.int .i64 0))) rfl rfl ?_
      refine Ops.int (m := 0) (m' := 4) (r := .bool true) rfl rfl rfl rfl rfl ?_
      apply Ops.nil
      replace H := H.all
      refine Runs.yes rfl ?_
      apply Runs.skip
      apply Runs.then
      apply Runs.inBlock
      apply Runs.then
      refine Runs.regionH 7 rfl H ?_; intro b10 σ H
      refine Ops.move (v := (.v (.int .i64 0))) rfl rfl ?_
      refine Ops.move (v := (.v (.int .u64 x2))) rfl rfl ?_
      refine Ops.rem (m := x2) (m' := 65536) rfl rfl (by decide) rfl ?_
      refine Ops.conv (m := (x2.tmod 65536)) rfl rfl rfl rfl ?_
      refine Ops.fieldAddrH (off := 0) (fo := 1) H 1 rfl rfl rfl rfl rfl nofun rfl ?_
      refine Ops.arrAddrH (off := 1) (m := 9) (s := 1) (iv := 0) H 1 rfl rfl rfl rfl (by decide) (by decide) rfl rfl nofun rfl ?_
      refine Ops.storeH (off := 1) (v := (.v (.int .u32 (IntKind.u32.wrap (x2.tmod 65536))))) (ys := [(.v (.int .u32 (IntKind.u32.wrap (x2.tmod 65536))))]) (cells' := [(.v (.bool x3.minus)), (.v (.int .u32 (IntKind.u32.wrap (x2.tmod 65536)))), (.v (.int .u32 x3.digits.d1)), (.v (.int .u32 x3.digits.d2)), (.v (.int .u32 x3.digits.d3)), (.v (.int .u32 x3.digits.d4)), (.v (.int .u32 x3.digits.d5)), (.v (.int .u32 x3.digits.d6)), (.v (.int .u32 x3.digits.d7)), (.v (.int .u32 x3.digits.d8))]) H 1 rfl rfl rfl rfl rfl rfl rfl rfl rfl nofun ?_; intro σ H
      apply Ops.nil
      replace H := H.all
      refine Runs.regionH 3 rfl H ?_; intro b11 σ H
      refine Ops.move (v := (.v (.int .u64 x2))) rfl rfl ?_
      refine Ops.quo (m := x2) (m' := 65536) rfl rfl (by decide) rfl ?_
      obtain ⟨x5, q6, h⟩ := bind_some h
      refine Ops.assign (v := (.v (.int .u64 x5))) (by rw [← Option.some.inj q6]; rfl) rfl ?_
      apply Ops.nil
      replace H := H.all
      refine Runs.regionH 3 rfl H ?_; intro b12 σ H
      refine Ops.move (v := (.v (.int .i64 0))) rfl rfl ?_
      refine Ops.int (m := 0) (m' := 1) (r := .int .i64 1) rfl rfl rfl rfl rfl ?_
      refine Ops.assign (v := (.v (.int .i64 1))) rfl rfl ?_
      apply Ops.nil
      replace H := H.all
      apply Runs.again
      apply Runs.then
      apply Runs.then
      refine Runs.regionH 2 rfl H ?_; intro b13 σ H
      refine Ops.move (v := (.v (.int .i64 1))) rfl rfl ?_
      refine Ops.int (m := 1) (m' := 4) (r := .bool true) rfl rfl rfl rfl rfl ?_
      apply Ops.nil
      replace H := H.all
      refine Runs.yes rfl ?_
      apply Runs.skip
      apply Runs.then
      apply Runs.inBlock
      apply Runs.then
      refine Runs.regionH 7 rfl H ?_; intro b14 σ H
      refine Ops.move (v := (.v (.int .i64 1))) rfl rfl ?_
      refine Ops.move (v := (.v (.int .u64 x5))) rfl rfl ?_
      refine Ops.rem (m := x5) (m' := 65536) rfl rfl (by decide) rfl ?_
      refine Ops.conv (m := (x5.tmod 65536)) rfl rfl rfl rfl ?_
      refine Ops.fieldAddrH (off := 0) (fo := 1) H 1 rfl rfl rfl rfl rfl nofun rfl ?_
      refine Ops.arrAddrH (off := 1) (m := 9) (s := 1) (iv := 1) H 1 rfl rfl rfl rfl (by decide) (by decide) rfl rfl nofun rfl ?_
      refine Ops.storeH (off := 2) (v := (.v (.int .u32 (IntKind.u32.wrap (x5.tmod 65536))))) (ys := [(.v (.int .u32 (IntKind.u32.wrap (x5.tmod 65536))))]) (cells' := [(.v (.bool x3.minus)), (.v (.int .u32 (IntKind.u32.wrap (x2.tmod 65536)))), (.v (.int .u32 (IntKind.u32.wrap (x5.tmod 65536)))), (.v (.int .u32 x3.digits.d2)), (.v (.int .u32 x3.digits.d3)), (.v (.int .u32 x3.digits.d4)), (.v (.int .u32 x3.digits.d5)), (.v (.int .u32 x3.digits.d6)), (.v (.int .u32 x3.digits.d7)), (.v (.int .u32 x3.digits.d8))]) H 1 rfl rfl rfl rfl rfl rfl rfl rfl rfl nofun ?_; intro σ H
      apply Ops.nil
      replace H := H.all
      refine Runs.regionH 3 rfl H ?_; intro b15 σ H
      refine Ops.move (v := (.v (.int .u64 x5))) rfl rfl ?_
      refine Ops.quo (m := x5) (m' := 65536) rfl rfl (by decide) rfl ?_
      obtain ⟨x6, q7, h⟩ := bind_some h
      refine Ops.assign (v := (.v (.int .u64 x6))) (by rw [← Option.some.inj q7]; rfl) rfl ?_
      apply Ops.nil
      replace H := H.all
      refine Runs.regionH 3 rfl H ?_; intro b16 σ H
      refine Ops.move (v := (.v (.int .i64 1))) rfl rfl ?_
      refine Ops.int (m := 1) (m' := 1) (r := .int .i64 2) rfl rfl rfl rfl rfl ?_
      refine Ops.assign (v := (.v (.int .i64 2))) rfl rfl ?_
      apply Ops.nil
      replace H := H.all
      apply Runs.again
      apply Runs.then
      apply Runs.then
      refine Runs.regionH 2 rfl H ?_; intro b17 σ H
      refine Ops.move (v := (.v (.int .i64 2))) rfl rfl ?_
      refine Ops.int (m := 2) (m' := 4) (r := .bool true) rfl rfl rfl rfl rfl ?_
      apply Ops.nil
      replace H := H.all
      refine Runs.yes rfl ?_
      apply Runs.skip
      apply Runs.then
      apply Runs.inBlock
      apply Runs.then
      refine Runs.regionH 7 rfl H ?_; intro b18 σ H
      refine Ops.move (v := (.v (.int .i64 2))) rfl rfl ?_
      refine Ops.move (v := (.v (.int .u64 x6))) rfl rfl ?_
      refine Ops.rem (m := x6) (m' := 65536) rfl rfl (by decide) rfl ?_
      refine Ops.conv (m := (x6.tmod 65536)) rfl rfl rfl rfl ?_
      refine Ops.fieldAddrH (off := 0) (fo := 1) H 1 rfl rfl rfl rfl rfl nofun rfl ?_
      refine Ops.arrAddrH (off := 1) (m := 9) (s := 1) (iv := 2) H 1 rfl rfl rfl rfl (by decide) (by decide) rfl rfl nofun rfl ?_
      refine Ops.storeH (off := 3) (v := (.v (.int .u32 (IntKind.u32.wrap (x6.tmod 65536))))) (ys := [(.v (.int .u32 (IntKind.u32.wrap (x6.tmod 65536))))]) (cells' := [(.v (.bool x3.minus)), (.v (.int .u32 (IntKind.u32.wrap (x2.tmod 65536)))), (.v (.int .u32 (IntKind.u32.wrap (x5.tmod 65536)))), (.v (.int .u32 (IntKind.u32.wrap (x6.tmod 65536)))), (.v (.int .u32 x3.digits.d3)), (.v (.int .u32 x3.digits.d4)), (.v (.int .u32 x3.digits.d5)), (.v (.int .u32 x3.digits.d6)), (.v (.int .u32 x3.digits.d7)), (.v (.int .u32 x3.digits.d8))]) H 1 rfl rfl rfl rfl rfl rfl rfl rfl rfl nofun ?_; intro σ H
      apply Ops.nil
      replace H := H.all
      refine Runs.regionH 3 rfl H ?_; intro b19 σ H
      refine Ops.move (v := (.v (.int .u64 x6))) rfl rfl ?_
      refine Ops.quo (m := x6) (m' := 65536) rfl rfl (by decide) rfl ?_
      obtain ⟨x7, q8, h⟩ := bind_some h
      refine Ops.assign (v := (.v (.int .u64 x7))) (by rw [← Option.some.inj q8]; rfl) rfl ?_
      apply Ops.nil
      replace H := H.all
      refine Runs.regionH 3 rfl H ?_; intro b20 σ H
      refine Ops.move (v := (.v (.int .i64 2))) rfl rfl ?_
      refine Ops.int (m := 2) (m' := 1) (r := .int .i64 3) rfl rfl rfl rfl rfl ?_
      refine Ops.assign (v := (.v (.int .i64 3))) rfl rfl ?_
      apply Ops.nil
      replace H := H.all
      apply Runs.again
      apply Runs.then
      apply Runs.then
      refine Runs.regionH 2 rfl H ?_; intro b21 σ H
      refine Ops.move (v := (.v (.int .i64 3))) rfl rfl ?_
      refine Ops.int (m := 3) (m' := 4) (r := .bool true) rfl rfl rfl rfl rfl ?_
      apply Ops.nil
      replace H := H.all
      refine Runs.yes rfl ?_
      apply Runs.skip
      apply Runs.then
      apply Runs.inBlock
      apply Runs.then
      refine Runs.regionH 7 rfl H ?_; intro b22 σ H
      refine Ops.move (v := (.v (.int .i64 3))) rfl rfl ?_
      refine Ops.move (v := (.v (.int .u64 x7))) rfl rfl ?_
      refine Ops.rem (m := x7) (m' := 65536) rfl rfl (by decide) rfl ?_
      refine Ops.conv (m := (x7.tmod 65536)) rfl rfl rfl rfl ?_
      refine Ops.fieldAddrH (off := 0) (fo := 1) H 1 rfl rfl rfl rfl rfl nofun rfl ?_
      refine Ops.arrAddrH (off := 1) (m := 9) (s := 1) (iv := 3) H 1 rfl rfl rfl rfl (by decide) (by decide) rfl rfl nofun rfl ?_
      refine Ops.storeH (off := 4) (v := (.v (.int .u32 (IntKind.u32.wrap (x7.tmod 65536))))) (ys := [(.v (.int .u32 (IntKind.u32.wrap (x7.tmod 65536))))]) (cells' := [(.v (.bool x3.minus)), (.v (.int .u32 (IntKind.u32.wrap (x2.tmod 65536)))), (.v (.int .u32 (IntKind.u32.wrap (x5.tmod 65536)))), (.v (.int .u32 (IntKind.u32.wrap (x6.tmod 65536)))), (.v (.int .u32 (IntKind.u32.wrap (x7.tmod 65536)))), (.v (.int .u32 x3.digits.d4)), (.v (.int .u32 x3.digits.d5)), (.v (.int .u32 x3.digits.d6)), (.v (.int .u32 x3.digits.d7)), (.v (.int .u32 x3.digits.d8))]) H 1 rfl rfl rfl rfl rfl rfl rfl rfl rfl nofun ?_; intro σ H
      apply Ops.nil
      replace H := H.all
      refine Runs.regionH 3 rfl H ?_; intro b23 σ H
      refine Ops.move (v := (.v (.int .u64 x7))) rfl rfl ?_
      refine Ops.quo (m := x7) (m' := 65536) rfl rfl (by decide) rfl ?_
      obtain ⟨x8, q9, h⟩ := bind_some h
      refine Ops.assign (v := (.v (.int .u64 x8))) (by rw [← Option.some.inj q9]; rfl) rfl ?_
      apply Ops.nil
      replace H := H.all
      refine Runs.regionH 3 rfl H ?_; intro b24 σ H
      refine Ops.move (v := (.v (.int .i64 3))) rfl rfl ?_
      refine Ops.int (m := 3) (m' := 1) (r := .int .i64 4) rfl rfl rfl rfl rfl ?_
      refine Ops.assign (v := (.v (.int .i64 4))) rfl rfl ?_
      apply Ops.nil
      replace H := H.all
      apply Runs.again
      apply Runs.then
      apply Runs.then
      refine Runs.regionH 2 rfl H ?_; intro b25 σ H
      refine Ops.move (v := (.v (.int .i64 4))) rfl rfl ?_
      refine Ops.int (m := 4) (m' := 4) (r := .bool false) rfl rfl rfl rfl rfl ?_
      apply Ops.nil
      replace H := H.all
      refine Runs.no rfl ?_
      apply Runs.exit
      apply Runs.then
      refine Runs.regionH 8 rfl H ?_; intro b26 σ H
      refine Ops.loadHA (off := 0) (cs := [(.v (.bool x3.minus)), (.v (.int .u32 (IntKind.u32.wrap (x2.tmod 65536)))), (.v (.int .u32 (IntKind.u32.wrap (x5.tmod 65536)))), (.v (.int .u32 (IntKind.u32.wrap (x6.tmod 65536)))), (.v (.int .u32 (IntKind.u32.wrap (x7.tmod 65536)))), (.v (.int .u32 x3.digits.d4)), (.v (.int .u32 x3.digits.d5)), (.v (.int .u32 x3.digits.d6)), (.v (.int .u32 x3.digits.d7)), (.v (.int .u32 x3.digits.d8))]) H 1 rfl rfl rfl rfl rfl rfl rfl nofun rfl ?_
      refine Ops.loadHA (off := 0) (cs := [(.v (.bool false)), (.v (.int .u32 x4.digits.d0)), (.v (.int .u32 x4.digits.d1)), (.v (.int .u32 x4.digits.d2)), (.v (.int .u32 x4.digits.d3)), (.v (.int .u32 x4.digits.d4)), (.v (.int .u32 x4.digits.d5)), (.v (.int .u32 x4.digits.d6)), (.v (.int .u32 x4.digits.d7)), (.v (.int .u32 x4.digits.d8))]) H 0 rfl rfl rfl rfl rfl rfl rfl nofun rfl ?_
      obtain ⟨x9, q10, h⟩ := bind_some h
      refine Ops.call (ys := [(.agg [(.v (.bool x3.minus)), (.v (.int .u32 (IntKind.u32.wrap (x2.tmod 65536)))), (.v (.int .u32 (IntKind.u32.wrap (x5.tmod 65536)))), (.v (.int .u32 (IntKind.u32.wrap (x6.tmod 65536)))), (.v (.int .u32 (IntKind.u32.wrap (x7.tmod 65536)))), (.v (.int .u32 x3.digits.d4)), (.v (.int .u32 x3.digits.d5)), (.v (.int .u32 x3.digits.d6)), (.v (.int .u32 x3.digits.d7)), (.v (.int .u32 x3.digits.d8))]), (.agg [(.v (.bool false)), (.v (.int .u32 x4.digits.d0)), (.v (.int .u32 x4.digits.d1)), (.v (.int .u32 x4.digits.d2)), (.v (.int .u32 x4.digits.d3)), (.v (.int .u32 x4.digits.d4)), (.v (.int .u32 x4.digits.d5)), (.v (.int .u32 x4.digits.d6)), (.v (.int .u32 x4.digits.d7)), (.v (.int .u32 x4.digits.d8))])]) (r := (.agg [(.v (.bool x9.minus)), (.v (.int .u32 x9.digits.d0)), (.v (.int .u32 x9.digits.d1)), (.v (.int .u32 x9.digits.d2)), (.v (.int .u32 x9.digits.d3)), (.v (.int .u32 x9.digits.d4)), (.v (.int .u32 x9.digits.d5)), (.v (.int .u32 x9.digits.d6)), (.v (.int .u32 x9.digits.d7)), (.v (.int .u32 x9.digits.d8))])) rfl (epactref01_product_fn q10) rfl ?_
      obtain ⟨x10, q11, h⟩ := bind_some h
      refine Ops.call (ys := [(.agg [(.v (.bool x9.minus)), (.v (.int .u32 x9.digits.d0)), (.v (.int .u32 x9.digits.d1)), (.v (.int .u32 x9.digits.d2)), (.v (.int .u32 x9.digits.d3)), (.v (.int .u32 x9.digits.d4)), (.v (.int .u32 x9.digits.d5)), (.v (.int .u32 x9.digits.d6)), (.v (.int .u32 x9.digits.d7)), (.v (.int .u32 x9.digits.d8))])]) (r := (.tup [(.v (.int .i64 x10.1)), (.v (.int .i64 x10.2))])) rfl (epactref01_number_fn q11) rfl ?_
      refine Ops.extract (v := (.v (.int .i64 x10.1))) rfl rfl rfl ?_
      refine Ops.extract (v := (.v (.int .i64 x10.2))) rfl rfl rfl ?_
      refine Ops.assign (v := (.v (.int .i64 x10.1))) rfl rfl ?_
      refine Ops.assign (v := (.v (.int .i64 x10.2))) rfl rfl ?_
      apply Ops.nil
      replace H := H.all
      apply Runs.ret
      replace h := Option.some.inj h; subst h
      exact (Ends.H (xs := [(.v (.int .i64 x10.1)), (.v (.int .i64 x10.2))]) (.inr rfl) H (.tmp (v := (.v (.int .i64 x10.1))) rfl (.tmp (v := (.v (.int .i64 x10.2))) rfl .nil)) (.two (.cons (.c (.v _)) (.cons (.c (.v _)) .nil))))

set_option maxRecDepth 100000 in
theorem epactlaw01_awake_fn {r : Bool} (h : epactlaw01_awake = r) : Fn CX 15 [] (.v (.bool r)) := by
  subst h
  exact Fn.run 60 (fun σ => by kernel_rfl) rfl rfl rfl

end Go.Dn
