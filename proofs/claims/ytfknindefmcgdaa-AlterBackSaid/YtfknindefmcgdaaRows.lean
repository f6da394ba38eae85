/-
  No cell of these rows narrows 'for every input' (looked for: loops, veiled, ifaces, maps, wideKeys, modest, calm, conditions, laid).
  DERIVED. THE GIVEN ROWS OF THIS SEAT. 6 by the template 'for every input the law returns true; each argument reads behind the call as it read before'; 0 by the template 'total and deterministic' (their statements: YtfknindefmcgdaaTotals.lean).
  GIVEN WITH THE SEED: the statements are not yours to turn. If you find one false, say at which input.
  Laid BY PROGRAM, IN A SANDBOX (cutbox-rows.mjs): the forced cells as the released guide's own fill.sh prints them over the translation 0da3c7a5312748ff… (all of the seat's roots in one cut). By AI agents, Wed Nov 11 2026. No macro, syntax, notation, axiom, sorry.
-/
import Derived.Test.YtfknindefmcgdaaChecked
import GoSem.Claim
import GoSem.ClaimJoined
import GoSem.ClaimMapViews
import Derived.JoinedTies
import Derived.KernelRfl
namespace Go.Proofs.Ytfknindefmcgdaa
/- THE CELL 'sum', in the pinned program and in every row, IS THE sha256 OF THE DUMP (.gsa) THAT YtfknindefmcgdaaProg.lean LOADS. Nothing in Lean hashes anything: it is a label: what it is worth is what the hold of that sum in a sandbox is worth. -/
noncomputable def Try.pinned : Pinned := { name := "ytfknindefmcgdaa", sum := "0da3c7a5312748ffa3a5f18728c17d57dd1471bc628b08598fbf93f8e7bf1aba", checked := Try.checked }
namespace Rows
def none {H : Type} : Left H := { results := [], args := [] }

/-- 'epactlaw13.GroupsTwice': WHATEVER THE INPUT: true; the input reads as it did. -/
def groupsTwiceSpec : ChangeSpec := { name := "groupsTwice", fn := fun _ => fun
  | [d1, d2, d3, d4] => { results := [.lit (.bool true)], args := [d1, d2, d3, d4] }
  | _ => none }
def groupsTwiceRow : OpenClaim := { program := "ytfknindefmcgdaa", sum := "0da3c7a5312748ffa3a5f18728c17d57dd1471bc628b08598fbf93f8e7bf1aba", func := "epact/epactlaw13.GroupsTwice", spec := "groupsTwice", unfollowed := true, recurses := true, apart := false }
def GroupsTwiceSaid : Prop := groupsTwiceRow.holds Try.pinned (OpenSpec.ofChange groupsTwiceSpec)

/-- ITS FALSE NEIGHBOUR: 'it returns false'. Refute it at one input. -/
def groupsTwiceWrong : ChangeSpec := { name := "groupsTwice", fn := fun _ => fun
  | [d1, d2, d3, d4] => { results := [.lit (.bool false)], args := [d1, d2, d3, d4] }
  | _ => none }
def GroupsTwiceWrongFalsely : Prop := groupsTwiceRow.holds Try.pinned (OpenSpec.ofChange groupsTwiceWrong)

/-- 'epactlaw13.GroupsShift': WHATEVER THE INPUT: true; the input reads as it did. -/
def groupsShiftSpec : ChangeSpec := { name := "groupsShift", fn := fun _ => fun
  | [d1, d2, d3] => { results := [.lit (.bool true)], args := [d1, d2, d3] }
  | _ => none }
def groupsShiftRow : OpenClaim := { program := "ytfknindefmcgdaa", sum := "0da3c7a5312748ffa3a5f18728c17d57dd1471bc628b08598fbf93f8e7bf1aba", func := "epact/epactlaw13.GroupsShift", spec := "groupsShift", unfollowed := true, recurses := true, apart := false }
def GroupsShiftSaid : Prop := groupsShiftRow.holds Try.pinned (OpenSpec.ofChange groupsShiftSpec)

/-- ITS FALSE NEIGHBOUR: 'it returns false'. Refute it at one input. -/
def groupsShiftWrong : ChangeSpec := { name := "groupsShift", fn := fun _ => fun
  | [d1, d2, d3] => { results := [.lit (.bool false)], args := [d1, d2, d3] }
  | _ => none }
def GroupsShiftWrongFalsely : Prop := groupsShiftRow.holds Try.pinned (OpenSpec.ofChange groupsShiftWrong)

/-- 'epactlaw13.GroupsGather': WHATEVER THE INPUT: true; the input reads as it did. -/
def groupsGatherSpec : ChangeSpec := { name := "groupsGather", fn := fun _ => fun
  | [d1, d2, d3] => { results := [.lit (.bool true)], args := [d1, d2, d3] }
  | _ => none }
def groupsGatherRow : OpenClaim := { program := "ytfknindefmcgdaa", sum := "0da3c7a5312748ffa3a5f18728c17d57dd1471bc628b08598fbf93f8e7bf1aba", func := "epact/epactlaw13.GroupsGather", spec := "groupsGather", unfollowed := true, recurses := true, apart := false }
def GroupsGatherSaid : Prop := groupsGatherRow.holds Try.pinned (OpenSpec.ofChange groupsGatherSpec)

/-- ITS FALSE NEIGHBOUR: 'it returns false'. Refute it at one input. -/
def groupsGatherWrong : ChangeSpec := { name := "groupsGather", fn := fun _ => fun
  | [d1, d2, d3] => { results := [.lit (.bool false)], args := [d1, d2, d3] }
  | _ => none }
def GroupsGatherWrongFalsely : Prop := groupsGatherRow.holds Try.pinned (OpenSpec.ofChange groupsGatherWrong)

/-- 'epactlaw14.AlterBack': WHATEVER THE INPUT: true; the input reads as it did. -/
def alterBackSpec : ChangeSpec := { name := "alterBack", fn := fun _ => fun
  | [d1, d2, d3, d4, d5, d6] => { results := [.lit (.bool true)], args := [d1, d2, d3, d4, d5, d6] }
  | _ => none }
def alterBackRow : OpenClaim := { program := "ytfknindefmcgdaa", sum := "0da3c7a5312748ffa3a5f18728c17d57dd1471bc628b08598fbf93f8e7bf1aba", func := "epact/epactlaw14.AlterBack", spec := "alterBack", unfollowed := true, recurses := true, apart := false }
def AlterBackSaid : Prop := alterBackRow.holds Try.pinned (OpenSpec.ofChange alterBackSpec)

/-- ITS FALSE NEIGHBOUR: 'it returns false'. Refute it at one input. -/
def alterBackWrong : ChangeSpec := { name := "alterBack", fn := fun _ => fun
  | [d1, d2, d3, d4, d5, d6] => { results := [.lit (.bool false)], args := [d1, d2, d3, d4, d5, d6] }
  | _ => none }
def AlterBackWrongFalsely : Prop := alterBackRow.holds Try.pinned (OpenSpec.ofChange alterBackWrong)

/-- 'epactlaw14.AlterShape': WHATEVER THE INPUT: true; the input reads as it did. -/
def alterShapeSpec : ChangeSpec := { name := "alterShape", fn := fun _ => fun
  | [d1, d2, d3, d4] => { results := [.lit (.bool true)], args := [d1, d2, d3, d4] }
  | _ => none }
def alterShapeRow : OpenClaim := { program := "ytfknindefmcgdaa", sum := "0da3c7a5312748ffa3a5f18728c17d57dd1471bc628b08598fbf93f8e7bf1aba", func := "epact/epactlaw14.AlterShape", spec := "alterShape", unfollowed := true, recurses := true, apart := false }
def AlterShapeSaid : Prop := alterShapeRow.holds Try.pinned (OpenSpec.ofChange alterShapeSpec)

/-- ITS FALSE NEIGHBOUR: 'it returns false'. Refute it at one input. -/
def alterShapeWrong : ChangeSpec := { name := "alterShape", fn := fun _ => fun
  | [d1, d2, d3, d4] => { results := [.lit (.bool false)], args := [d1, d2, d3, d4] }
  | _ => none }
def AlterShapeWrongFalsely : Prop := alterShapeRow.holds Try.pinned (OpenSpec.ofChange alterShapeWrong)

/-- 'epactlaw14.AlterParts': WHATEVER THE INPUT: true; the input reads as it did. -/
def alterPartsSpec : ChangeSpec := { name := "alterParts", fn := fun _ => fun
  | [d1, d2, d3] => { results := [.lit (.bool true)], args := [d1, d2, d3] }
  | _ => none }
def alterPartsRow : OpenClaim := { program := "ytfknindefmcgdaa", sum := "0da3c7a5312748ffa3a5f18728c17d57dd1471bc628b08598fbf93f8e7bf1aba", func := "epact/epactlaw14.AlterParts", spec := "alterParts", unfollowed := true, recurses := true, apart := false }
def AlterPartsSaid : Prop := alterPartsRow.holds Try.pinned (OpenSpec.ofChange alterPartsSpec)

/-- ITS FALSE NEIGHBOUR: 'it returns false'. Refute it at one input. -/
def alterPartsWrong : ChangeSpec := { name := "alterParts", fn := fun _ => fun
  | [d1, d2, d3] => { results := [.lit (.bool false)], args := [d1, d2, d3] }
  | _ => none }
def AlterPartsWrongFalsely : Prop := alterPartsRow.holds Try.pinned (OpenSpec.ofChange alterPartsWrong)

/- THE SECOND FORM. 'bulk': how many values and letters a reading holds, each counted each time it is reached (what is shared counts as often as it is met; a slice's spare places count too). A statement '..UptoSaid' is the law's where the arguments, and the package variables that the reading takes, are together of bulk at most 1048576: NARROWER than '..Said'. Prove '..Said' where nothing that the law and all that it calls make is longer than what came in: it says more and counts as full. Else prove '..UptoSaid'. A law counts once. -/
mutual
def uptoBulk {H : Type} : DataW H → Nat
  | .lit (.string bytes) => bytes.length + 1
  | .lit _ => 1
  | .nil => 1
  | .ptr d => uptoBulk d + 1
  | .slice elems spare => uptoBulkAll elems + uptoBulkAll spare + 1
  | .agg parts => uptoBulkAll parts + 1
  | .iface _ d => uptoBulk d + 1
  | .map entries => uptoBulkEntries entries + 1
  | .held _ => 1
def uptoBulkAll {H : Type} : List (DataW H) → Nat
  | [] => 0
  | d :: r => uptoBulk d + uptoBulkAll r
def uptoBulkEntries {H : Type} : List (Lit × DataW H) → Nat
  | [] => 0
  | x :: r => uptoBulkEntry x + uptoBulkEntries r
def uptoBulkEntry {H : Type} : Lit × DataW H → Nat
  | (.string bytes, d) => bytes.length + uptoBulk d + 1
  | (_, d) => uptoBulk d + 1
 end
def uptoSmall : (H : Type) → List (DataW H) → Bool := fun _ ds => decide (uptoBulkAll ds ≤ 1048576)
def OpenSpec.upto (s : _root_.Go.ChangeSpec) : _root_.Go.OpenSpec := { _root_.Go.OpenSpec.ofChange s with cond := some uptoSmall }

/-- 'epactlaw13.GroupsTwice', WHERE WHAT IT READS IS OF BULK AT MOST 1048576: true; the input reads as it did. -/
def groupsTwiceUptoRow : OpenClaim := { program := "ytfknindefmcgdaa", sum := "0da3c7a5312748ffa3a5f18728c17d57dd1471bc628b08598fbf93f8e7bf1aba", func := "epact/epactlaw13.GroupsTwice", spec := "groupsTwice", unfollowed := true, recurses := true, apart := false, narrowed := true }
def GroupsTwiceUptoSaid : Prop := groupsTwiceUptoRow.holds Try.pinned (OpenSpec.upto groupsTwiceSpec)

/-- 'epactlaw13.GroupsShift', WHERE WHAT IT READS IS OF BULK AT MOST 1048576: true; the input reads as it did. -/
def groupsShiftUptoRow : OpenClaim := { program := "ytfknindefmcgdaa", sum := "0da3c7a5312748ffa3a5f18728c17d57dd1471bc628b08598fbf93f8e7bf1aba", func := "epact/epactlaw13.GroupsShift", spec := "groupsShift", unfollowed := true, recurses := true, apart := false, narrowed := true }
def GroupsShiftUptoSaid : Prop := groupsShiftUptoRow.holds Try.pinned (OpenSpec.upto groupsShiftSpec)

/-- 'epactlaw13.GroupsGather', WHERE WHAT IT READS IS OF BULK AT MOST 1048576: true; the input reads as it did. -/
def groupsGatherUptoRow : OpenClaim := { program := "ytfknindefmcgdaa", sum := "0da3c7a5312748ffa3a5f18728c17d57dd1471bc628b08598fbf93f8e7bf1aba", func := "epact/epactlaw13.GroupsGather", spec := "groupsGather", unfollowed := true, recurses := true, apart := false, narrowed := true }
def GroupsGatherUptoSaid : Prop := groupsGatherUptoRow.holds Try.pinned (OpenSpec.upto groupsGatherSpec)

/-- 'epactlaw14.AlterBack', WHERE WHAT IT READS IS OF BULK AT MOST 1048576: true; the input reads as it did. -/
def alterBackUptoRow : OpenClaim := { program := "ytfknindefmcgdaa", sum := "0da3c7a5312748ffa3a5f18728c17d57dd1471bc628b08598fbf93f8e7bf1aba", func := "epact/epactlaw14.AlterBack", spec := "alterBack", unfollowed := true, recurses := true, apart := false, narrowed := true }
def AlterBackUptoSaid : Prop := alterBackUptoRow.holds Try.pinned (OpenSpec.upto alterBackSpec)

/-- 'epactlaw14.AlterShape', WHERE WHAT IT READS IS OF BULK AT MOST 1048576: true; the input reads as it did. -/
def alterShapeUptoRow : OpenClaim := { program := "ytfknindefmcgdaa", sum := "0da3c7a5312748ffa3a5f18728c17d57dd1471bc628b08598fbf93f8e7bf1aba", func := "epact/epactlaw14.AlterShape", spec := "alterShape", unfollowed := true, recurses := true, apart := false, narrowed := true }
def AlterShapeUptoSaid : Prop := alterShapeUptoRow.holds Try.pinned (OpenSpec.upto alterShapeSpec)

/-- 'epactlaw14.AlterParts', WHERE WHAT IT READS IS OF BULK AT MOST 1048576: true; the input reads as it did. -/
def alterPartsUptoRow : OpenClaim := { program := "ytfknindefmcgdaa", sum := "0da3c7a5312748ffa3a5f18728c17d57dd1471bc628b08598fbf93f8e7bf1aba", func := "epact/epactlaw14.AlterParts", spec := "alterParts", unfollowed := true, recurses := true, apart := false, narrowed := true }
def AlterPartsUptoSaid : Prop := alterPartsUptoRow.holds Try.pinned (OpenSpec.upto alterPartsSpec)

end Rows
end Go.Proofs.Ytfknindefmcgdaa
