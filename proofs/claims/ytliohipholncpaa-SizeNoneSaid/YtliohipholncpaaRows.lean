/-
  No cell of these rows narrows 'for every input' (looked for: loops, veiled, ifaces, maps, wideKeys, modest, calm, conditions, laid).
  DERIVED. THE GIVEN ROWS OF THIS SEAT. 9 by the template 'for every input the law returns true; each argument reads behind the call as it read before'; 0 by the template 'total and deterministic' (their statements: YtliohipholncpaaTotals.lean).
  GIVEN WITH THE SEED: the statements are not yours to turn. If you find one false, say at which input.
  Laid BY PROGRAM, IN A SANDBOX (cutbox-rows.mjs): the forced cells as the released guide's own fill.sh prints them over the translation ae8619322caae00b… (all of the seat's roots in one cut). By AI agents, Wed Nov 11 2026. No macro, syntax, notation, axiom, sorry.
-/
import Derived.Test.YtliohipholncpaaChecked
import GoSem.Claim
import GoSem.ClaimJoined
import GoSem.ClaimMapViews
import Derived.JoinedTies
import Derived.KernelRfl
namespace Go.Proofs.Ytliohipholncpaa
/- THE CELL 'sum', in the pinned program and in every row, IS THE sha256 OF THE DUMP (.gsa) THAT YtliohipholncpaaProg.lean LOADS. Nothing in Lean hashes anything: it is a label: what it is worth is what the hold of that sum in a sandbox is worth. -/
noncomputable def Try.pinned : Pinned := { name := "ytliohipholncpaa", sum := "ae8619322caae00b20aed03e4fd8fd1f1b146976474d8cd74d038b00473ac62b", checked := Try.checked }
namespace Rows
def none {H : Type} : Left H := { results := [], args := [] }

/-- 'epactlaw25.CarryTells': WHATEVER THE INPUT: true; the input reads as it did. -/
def carryTellsSpec : ChangeSpec := { name := "carryTells", fn := fun _ => fun
  | [d1, d2] => { results := [.lit (.bool true)], args := [d1, d2] }
  | _ => none }
def carryTellsRow : OpenClaim := { program := "ytliohipholncpaa", sum := "ae8619322caae00b20aed03e4fd8fd1f1b146976474d8cd74d038b00473ac62b", func := "epact/epactlaw25.CarryTells", spec := "carryTells", unfollowed := true, recurses := true, apart := false }
def CarryTellsSaid : Prop := carryTellsRow.holds Try.pinned (OpenSpec.ofChange carryTellsSpec)

/-- ITS FALSE NEIGHBOUR: 'it returns false'. Refute it at one input. -/
def carryTellsWrong : ChangeSpec := { name := "carryTells", fn := fun _ => fun
  | [d1, d2] => { results := [.lit (.bool false)], args := [d1, d2] }
  | _ => none }
def CarryTellsWrongFalsely : Prop := carryTellsRow.holds Try.pinned (OpenSpec.ofChange carryTellsWrong)

/-- 'epactlaw25.CarryTurns': WHATEVER THE INPUT: true; the input reads as it did. -/
def carryTurnsSpec : ChangeSpec := { name := "carryTurns", fn := fun _ => fun
  | [d1, d2] => { results := [.lit (.bool true)], args := [d1, d2] }
  | _ => none }
def carryTurnsRow : OpenClaim := { program := "ytliohipholncpaa", sum := "ae8619322caae00b20aed03e4fd8fd1f1b146976474d8cd74d038b00473ac62b", func := "epact/epactlaw25.CarryTurns", spec := "carryTurns", unfollowed := true, recurses := true, apart := false }
def CarryTurnsSaid : Prop := carryTurnsRow.holds Try.pinned (OpenSpec.ofChange carryTurnsSpec)

/-- ITS FALSE NEIGHBOUR: 'it returns false'. Refute it at one input. -/
def carryTurnsWrong : ChangeSpec := { name := "carryTurns", fn := fun _ => fun
  | [d1, d2] => { results := [.lit (.bool false)], args := [d1, d2] }
  | _ => none }
def CarryTurnsWrongFalsely : Prop := carryTurnsRow.holds Try.pinned (OpenSpec.ofChange carryTurnsWrong)

/-- 'epactlaw25.CarryArgs': WHATEVER THE INPUT: true; the input reads as it did. -/
def carryArgsSpec : ChangeSpec := { name := "carryArgs", fn := fun _ => fun
  | [d1, d2, d3] => { results := [.lit (.bool true)], args := [d1, d2, d3] }
  | _ => none }
def carryArgsRow : OpenClaim := { program := "ytliohipholncpaa", sum := "ae8619322caae00b20aed03e4fd8fd1f1b146976474d8cd74d038b00473ac62b", func := "epact/epactlaw25.CarryArgs", spec := "carryArgs", unfollowed := true, recurses := true, apart := false }
def CarryArgsSaid : Prop := carryArgsRow.holds Try.pinned (OpenSpec.ofChange carryArgsSpec)

/-- ITS FALSE NEIGHBOUR: 'it returns false'. Refute it at one input. -/
def carryArgsWrong : ChangeSpec := { name := "carryArgs", fn := fun _ => fun
  | [d1, d2, d3] => { results := [.lit (.bool false)], args := [d1, d2, d3] }
  | _ => none }
def CarryArgsWrongFalsely : Prop := carryArgsRow.holds Try.pinned (OpenSpec.ofChange carryArgsWrong)

/-- 'epactlaw25.CarryGrows': WHATEVER THE INPUT: true; the input reads as it did. -/
def carryGrowsSpec : ChangeSpec := { name := "carryGrows", fn := fun _ => fun
  | [d1, d2, d3, d4, d5, d6] => { results := [.lit (.bool true)], args := [d1, d2, d3, d4, d5, d6] }
  | _ => none }
def carryGrowsRow : OpenClaim := { program := "ytliohipholncpaa", sum := "ae8619322caae00b20aed03e4fd8fd1f1b146976474d8cd74d038b00473ac62b", func := "epact/epactlaw25.CarryGrows", spec := "carryGrows", unfollowed := true, recurses := true, apart := false }
def CarryGrowsSaid : Prop := carryGrowsRow.holds Try.pinned (OpenSpec.ofChange carryGrowsSpec)

/-- ITS FALSE NEIGHBOUR: 'it returns false'. Refute it at one input. -/
def carryGrowsWrong : ChangeSpec := { name := "carryGrows", fn := fun _ => fun
  | [d1, d2, d3, d4, d5, d6] => { results := [.lit (.bool false)], args := [d1, d2, d3, d4, d5, d6] }
  | _ => none }
def CarryGrowsWrongFalsely : Prop := carryGrowsRow.holds Try.pinned (OpenSpec.ofChange carryGrowsWrong)

/-- 'epactlaw25.CarrySound': WHATEVER THE INPUT: true; the input reads as it did. -/
def carrySoundSpec : ChangeSpec := { name := "carrySound", fn := fun _ => fun
  | [d1, d2, d3, d4, d5, d6] => { results := [.lit (.bool true)], args := [d1, d2, d3, d4, d5, d6] }
  | _ => none }
def carrySoundRow : OpenClaim := { program := "ytliohipholncpaa", sum := "ae8619322caae00b20aed03e4fd8fd1f1b146976474d8cd74d038b00473ac62b", func := "epact/epactlaw25.CarrySound", spec := "carrySound", unfollowed := true, recurses := true, apart := false }
def CarrySoundSaid : Prop := carrySoundRow.holds Try.pinned (OpenSpec.ofChange carrySoundSpec)

/-- ITS FALSE NEIGHBOUR: 'it returns false'. Refute it at one input. -/
def carrySoundWrong : ChangeSpec := { name := "carrySound", fn := fun _ => fun
  | [d1, d2, d3, d4, d5, d6] => { results := [.lit (.bool false)], args := [d1, d2, d3, d4, d5, d6] }
  | _ => none }
def CarrySoundWrongFalsely : Prop := carrySoundRow.holds Try.pinned (OpenSpec.ofChange carrySoundWrong)

/-- 'epactlaw22.SizeHolds': WHATEVER THE INPUT: true; the input reads as it did. -/
def sizeHoldsSpec : ChangeSpec := { name := "sizeHolds", fn := fun _ => fun
  | [d1, d2, d3, d4, d5, d6, d7] => { results := [.lit (.bool true)], args := [d1, d2, d3, d4, d5, d6, d7] }
  | _ => none }
def sizeHoldsRow : OpenClaim := { program := "ytliohipholncpaa", sum := "ae8619322caae00b20aed03e4fd8fd1f1b146976474d8cd74d038b00473ac62b", func := "epact/epactlaw22.SizeHolds", spec := "sizeHolds", unfollowed := true, recurses := true, apart := false }
def SizeHoldsSaid : Prop := sizeHoldsRow.holds Try.pinned (OpenSpec.ofChange sizeHoldsSpec)

/-- ITS FALSE NEIGHBOUR: 'it returns false'. Refute it at one input. -/
def sizeHoldsWrong : ChangeSpec := { name := "sizeHolds", fn := fun _ => fun
  | [d1, d2, d3, d4, d5, d6, d7] => { results := [.lit (.bool false)], args := [d1, d2, d3, d4, d5, d6, d7] }
  | _ => none }
def SizeHoldsWrongFalsely : Prop := sizeHoldsRow.holds Try.pinned (OpenSpec.ofChange sizeHoldsWrong)

/-- 'epactlaw22.SizeTurned': WHATEVER THE INPUT: true; the input reads as it did. -/
def sizeTurnedSpec : ChangeSpec := { name := "sizeTurned", fn := fun _ => fun
  | [d1, d2, d3] => { results := [.lit (.bool true)], args := [d1, d2, d3] }
  | _ => none }
def sizeTurnedRow : OpenClaim := { program := "ytliohipholncpaa", sum := "ae8619322caae00b20aed03e4fd8fd1f1b146976474d8cd74d038b00473ac62b", func := "epact/epactlaw22.SizeTurned", spec := "sizeTurned", unfollowed := true, recurses := true, apart := false }
def SizeTurnedSaid : Prop := sizeTurnedRow.holds Try.pinned (OpenSpec.ofChange sizeTurnedSpec)

/-- ITS FALSE NEIGHBOUR: 'it returns false'. Refute it at one input. -/
def sizeTurnedWrong : ChangeSpec := { name := "sizeTurned", fn := fun _ => fun
  | [d1, d2, d3] => { results := [.lit (.bool false)], args := [d1, d2, d3] }
  | _ => none }
def SizeTurnedWrongFalsely : Prop := sizeTurnedRow.holds Try.pinned (OpenSpec.ofChange sizeTurnedWrong)

/-- 'epactlaw22.SizeBack': WHATEVER THE INPUT: true; the input reads as it did. -/
def sizeBackSpec : ChangeSpec := { name := "sizeBack", fn := fun _ => fun
  | [d1, d2] => { results := [.lit (.bool true)], args := [d1, d2] }
  | _ => none }
def sizeBackRow : OpenClaim := { program := "ytliohipholncpaa", sum := "ae8619322caae00b20aed03e4fd8fd1f1b146976474d8cd74d038b00473ac62b", func := "epact/epactlaw22.SizeBack", spec := "sizeBack", unfollowed := true, recurses := true, apart := false }
def SizeBackSaid : Prop := sizeBackRow.holds Try.pinned (OpenSpec.ofChange sizeBackSpec)

/-- ITS FALSE NEIGHBOUR: 'it returns false'. Refute it at one input. -/
def sizeBackWrong : ChangeSpec := { name := "sizeBack", fn := fun _ => fun
  | [d1, d2] => { results := [.lit (.bool false)], args := [d1, d2] }
  | _ => none }
def SizeBackWrongFalsely : Prop := sizeBackRow.holds Try.pinned (OpenSpec.ofChange sizeBackWrong)

/-- 'epactlaw22.SizeNone': WHATEVER THE INPUT: true; the input reads as it did. -/
def sizeNoneSpec : ChangeSpec := { name := "sizeNone", fn := fun _ => fun
  | [d1, d2, d3] => { results := [.lit (.bool true)], args := [d1, d2, d3] }
  | _ => none }
def sizeNoneRow : OpenClaim := { program := "ytliohipholncpaa", sum := "ae8619322caae00b20aed03e4fd8fd1f1b146976474d8cd74d038b00473ac62b", func := "epact/epactlaw22.SizeNone", spec := "sizeNone", unfollowed := true, recurses := true, apart := false }
def SizeNoneSaid : Prop := sizeNoneRow.holds Try.pinned (OpenSpec.ofChange sizeNoneSpec)

/-- ITS FALSE NEIGHBOUR: 'it returns false'. Refute it at one input. -/
def sizeNoneWrong : ChangeSpec := { name := "sizeNone", fn := fun _ => fun
  | [d1, d2, d3] => { results := [.lit (.bool false)], args := [d1, d2, d3] }
  | _ => none }
def SizeNoneWrongFalsely : Prop := sizeNoneRow.holds Try.pinned (OpenSpec.ofChange sizeNoneWrong)

/- THE SECOND FORM. 'bulk': how many values and letters a reading holds, each counted each time it is reached (what is shared counts as often as it is met; a slice's spare places count too). A statement '..UptoSaid' is the law's where the arguments, and the package variables that the reading takes, are together of bulk at most 1048576: NARROWER than '..Said'. Prove '..Said' where nothing that the law and all that it calls make is longer than what came in: it says more and counts as full. Else prove '..UptoSaid'. A law counts once. -/
mutual
def uptoBulk {H : Type} : DataW H → Nat
  | .lit (.string bytes) => bytes.length + 1
  | .lit _ => 1
  | .nil => 1
  | .ptr d => uptoBulk d + 1
  | .slice elems spare => uptoBulkAll elems + uptoBulkAll spare + 1
  | .agg parts => uptoBulkAll parts + 1
  | .iface _ d => uptoBulk d + 1
  | .map entries => uptoBulkEntries entries + 1
  | .held _ => 1
def uptoBulkAll {H : Type} : List (DataW H) → Nat
  | [] => 0
  | d :: r => uptoBulk d + uptoBulkAll r
def uptoBulkEntries {H : Type} : List (Lit × DataW H) → Nat
  | [] => 0
  | x :: r => uptoBulkEntry x + uptoBulkEntries r
def uptoBulkEntry {H : Type} : Lit × DataW H → Nat
  | (.string bytes, d) => bytes.length + uptoBulk d + 1
  | (_, d) => uptoBulk d + 1
 end
def uptoSmall : (H : Type) → List (DataW H) → Bool := fun _ ds => decide (uptoBulkAll ds ≤ 1048576)
def OpenSpec.upto (s : _root_.Go.ChangeSpec) : _root_.Go.OpenSpec := { _root_.Go.OpenSpec.ofChange s with cond := some uptoSmall }

/-- 'epactlaw25.CarryTells', WHERE WHAT IT READS IS OF BULK AT MOST 1048576: true; the input reads as it did. -/
def carryTellsUptoRow : OpenClaim := { program := "ytliohipholncpaa", sum := "ae8619322caae00b20aed03e4fd8fd1f1b146976474d8cd74d038b00473ac62b", func := "epact/epactlaw25.CarryTells", spec := "carryTells", unfollowed := true, recurses := true, apart := false, narrowed := true }
def CarryTellsUptoSaid : Prop := carryTellsUptoRow.holds Try.pinned (OpenSpec.upto carryTellsSpec)

/-- 'epactlaw25.CarryTurns', WHERE WHAT IT READS IS OF BULK AT MOST 1048576: true; the input reads as it did. -/
def carryTurnsUptoRow : OpenClaim := { program := "ytliohipholncpaa", sum := "ae8619322caae00b20aed03e4fd8fd1f1b146976474d8cd74d038b00473ac62b", func := "epact/epactlaw25.CarryTurns", spec := "carryTurns", unfollowed := true, recurses := true, apart := false, narrowed := true }
def CarryTurnsUptoSaid : Prop := carryTurnsUptoRow.holds Try.pinned (OpenSpec.upto carryTurnsSpec)

/-- 'epactlaw25.CarryArgs', WHERE WHAT IT READS IS OF BULK AT MOST 1048576: true; the input reads as it did. -/
def carryArgsUptoRow : OpenClaim := { program := "ytliohipholncpaa", sum := "ae8619322caae00b20aed03e4fd8fd1f1b146976474d8cd74d038b00473ac62b", func := "epact/epactlaw25.CarryArgs", spec := "carryArgs", unfollowed := true, recurses := true, apart := false, narrowed := true }
def CarryArgsUptoSaid : Prop := carryArgsUptoRow.holds Try.pinned (OpenSpec.upto carryArgsSpec)

/-- 'epactlaw25.CarryGrows', WHERE WHAT IT READS IS OF BULK AT MOST 1048576: true; the input reads as it did. -/
def carryGrowsUptoRow : OpenClaim := { program := "ytliohipholncpaa", sum := "ae8619322caae00b20aed03e4fd8fd1f1b146976474d8cd74d038b00473ac62b", func := "epact/epactlaw25.CarryGrows", spec := "carryGrows", unfollowed := true, recurses := true, apart := false, narrowed := true }
def CarryGrowsUptoSaid : Prop := carryGrowsUptoRow.holds Try.pinned (OpenSpec.upto carryGrowsSpec)

/-- 'epactlaw25.CarrySound', WHERE WHAT IT READS IS OF BULK AT MOST 1048576: true; the input reads as it did. -/
def carrySoundUptoRow : OpenClaim := { program := "ytliohipholncpaa", sum := "ae8619322caae00b20aed03e4fd8fd1f1b146976474d8cd74d038b00473ac62b", func := "epact/epactlaw25.CarrySound", spec := "carrySound", unfollowed := true, recurses := true, apart := false, narrowed := true }
def CarrySoundUptoSaid : Prop := carrySoundUptoRow.holds Try.pinned (OpenSpec.upto carrySoundSpec)

/-- 'epactlaw22.SizeHolds', WHERE WHAT IT READS IS OF BULK AT MOST 1048576: true; the input reads as it did. -/
def sizeHoldsUptoRow : OpenClaim := { program := "ytliohipholncpaa", sum := "ae8619322caae00b20aed03e4fd8fd1f1b146976474d8cd74d038b00473ac62b", func := "epact/epactlaw22.SizeHolds", spec := "sizeHolds", unfollowed := true, recurses := true, apart := false, narrowed := true }
def SizeHoldsUptoSaid : Prop := sizeHoldsUptoRow.holds Try.pinned (OpenSpec.upto sizeHoldsSpec)

/-- 'epactlaw22.SizeTurned', WHERE WHAT IT READS IS OF BULK AT MOST 1048576: true; the input reads as it did. -/
def sizeTurnedUptoRow : OpenClaim := { program := "ytliohipholncpaa", sum := "ae8619322caae00b20aed03e4fd8fd1f1b146976474d8cd74d038b00473ac62b", func := "epact/epactlaw22.SizeTurned", spec := "sizeTurned", unfollowed := true, recurses := true, apart := false, narrowed := true }
def SizeTurnedUptoSaid : Prop := sizeTurnedUptoRow.holds Try.pinned (OpenSpec.upto sizeTurnedSpec)

/-- 'epactlaw22.SizeBack', WHERE WHAT IT READS IS OF BULK AT MOST 1048576: true; the input reads as it did. -/
def sizeBackUptoRow : OpenClaim := { program := "ytliohipholncpaa", sum := "ae8619322caae00b20aed03e4fd8fd1f1b146976474d8cd74d038b00473ac62b", func := "epact/epactlaw22.SizeBack", spec := "sizeBack", unfollowed := true, recurses := true, apart := false, narrowed := true }
def SizeBackUptoSaid : Prop := sizeBackUptoRow.holds Try.pinned (OpenSpec.upto sizeBackSpec)

/-- 'epactlaw22.SizeNone', WHERE WHAT IT READS IS OF BULK AT MOST 1048576: true; the input reads as it did. -/
def sizeNoneUptoRow : OpenClaim := { program := "ytliohipholncpaa", sum := "ae8619322caae00b20aed03e4fd8fd1f1b146976474d8cd74d038b00473ac62b", func := "epact/epactlaw22.SizeNone", spec := "sizeNone", unfollowed := true, recurses := true, apart := false, narrowed := true }
def SizeNoneUptoSaid : Prop := sizeNoneUptoRow.holds Try.pinned (OpenSpec.upto sizeNoneSpec)

end Rows
end Go.Proofs.Ytliohipholncpaa
