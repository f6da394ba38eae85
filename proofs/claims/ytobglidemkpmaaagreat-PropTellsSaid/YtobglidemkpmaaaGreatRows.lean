/-
  No cell of these rows narrows 'for every input' (looked for: loops, veiled, ifaces, maps, wideKeys, modest, calm, conditions, laid).
  DERIVED. THE GIVEN ROWS OF THIS SEAT. 4 by the template 'for every input the law returns true; each argument reads behind the call as it read before'; 0 by the template 'total and deterministic' (their statements: YtobglidemkpmaaaGreatTotals.lean).
  GIVEN WITH THE SEED: the statements are not yours to turn. If you find one false, say at which input.
  Laid BY PROGRAM, IN A SANDBOX (cutbox-rows.mjs): the forced cells as the released guide's own fill.sh prints them over the translation c4225a4a7518c15c… (all of the seat's roots in one cut). By AI agents, Wed Nov 11 2026. No macro, syntax, notation, axiom, sorry.
-/
import Derived.Test.YtobglidemkpmaaaGreatChecked
import GoSem.Claim
import GoSem.ClaimJoined
import GoSem.ClaimMapViews
import Derived.JoinedTies
import Derived.KernelRfl
namespace Go.Proofs.YtobglidemkpmaaaGreat
/- THE CELL 'sum', in the pinned program and in every row, IS THE sha256 OF THE DUMP (.gsa) THAT YtobglidemkpmaaaGreatProg.lean LOADS. Nothing in Lean hashes anything: it is a label: what it is worth is what the hold of that sum in a sandbox is worth. -/
noncomputable def Tryz.pinned : Pinned := { name := "ytobglidemkpmaaagreat", sum := "c4225a4a7518c15c08e97707480efc697934c8867bbe43ed313e0c7d1e314cce", checked := Tryz.checked }
namespace Rows
def none {H : Type} : Left H := { results := [], args := [] }

/-- 'epactlaw26.PropOwn': WHATEVER THE INPUT: true; the input reads as it did. -/
def propOwnSpec : ChangeSpec := { name := "propOwn", fn := fun _ => fun
  | [d1, d2, d3, d4] => { results := [.lit (.bool true)], args := [d1, d2, d3, d4] }
  | _ => none }
def propOwnRow : OpenClaim := { program := "ytobglidemkpmaaagreat", sum := "c4225a4a7518c15c08e97707480efc697934c8867bbe43ed313e0c7d1e314cce", func := "epact/epactlaw26.PropOwn", spec := "propOwn", unfollowed := true, recurses := true, apart := false }
def PropOwnSaid : Prop := propOwnRow.holds Tryz.pinned (OpenSpec.ofChange propOwnSpec)

/-- ITS FALSE NEIGHBOUR: 'it returns false'. Refute it at one input. -/
def propOwnWrong : ChangeSpec := { name := "propOwn", fn := fun _ => fun
  | [d1, d2, d3, d4] => { results := [.lit (.bool false)], args := [d1, d2, d3, d4] }
  | _ => none }
def PropOwnWrongFalsely : Prop := propOwnRow.holds Tryz.pinned (OpenSpec.ofChange propOwnWrong)

/-- 'epactlaw26.PropSound': WHATEVER THE INPUT: true; the input reads as it did. -/
def propSoundSpec : ChangeSpec := { name := "propSound", fn := fun _ => fun
  | [d1, d2, d3] => { results := [.lit (.bool true)], args := [d1, d2, d3] }
  | _ => none }
def propSoundRow : OpenClaim := { program := "ytobglidemkpmaaagreat", sum := "c4225a4a7518c15c08e97707480efc697934c8867bbe43ed313e0c7d1e314cce", func := "epact/epactlaw26.PropSound", spec := "propSound", unfollowed := true, recurses := true, apart := false }
def PropSoundSaid : Prop := propSoundRow.holds Tryz.pinned (OpenSpec.ofChange propSoundSpec)

/-- ITS FALSE NEIGHBOUR: 'it returns false'. Refute it at one input. -/
def propSoundWrong : ChangeSpec := { name := "propSound", fn := fun _ => fun
  | [d1, d2, d3] => { results := [.lit (.bool false)], args := [d1, d2, d3] }
  | _ => none }
def PropSoundWrongFalsely : Prop := propSoundRow.holds Tryz.pinned (OpenSpec.ofChange propSoundWrong)

/-- 'epactlaw26.PropNarrows': WHATEVER THE INPUT: true; the input reads as it did. -/
def propNarrowsSpec : ChangeSpec := { name := "propNarrows", fn := fun _ => fun
  | [d1, d2, d3] => { results := [.lit (.bool true)], args := [d1, d2, d3] }
  | _ => none }
def propNarrowsRow : OpenClaim := { program := "ytobglidemkpmaaagreat", sum := "c4225a4a7518c15c08e97707480efc697934c8867bbe43ed313e0c7d1e314cce", func := "epact/epactlaw26.PropNarrows", spec := "propNarrows", unfollowed := true, recurses := true, apart := false }
def PropNarrowsSaid : Prop := propNarrowsRow.holds Tryz.pinned (OpenSpec.ofChange propNarrowsSpec)

/-- ITS FALSE NEIGHBOUR: 'it returns false'. Refute it at one input. -/
def propNarrowsWrong : ChangeSpec := { name := "propNarrows", fn := fun _ => fun
  | [d1, d2, d3] => { results := [.lit (.bool false)], args := [d1, d2, d3] }
  | _ => none }
def PropNarrowsWrongFalsely : Prop := propNarrowsRow.holds Tryz.pinned (OpenSpec.ofChange propNarrowsWrong)

/-- 'epactlaw26.PropTells': WHATEVER THE INPUT: true; the input reads as it did. -/
def propTellsSpec : ChangeSpec := { name := "propTells", fn := fun _ => fun
  | [d1, d2, d3] => { results := [.lit (.bool true)], args := [d1, d2, d3] }
  | _ => none }
def propTellsRow : OpenClaim := { program := "ytobglidemkpmaaagreat", sum := "c4225a4a7518c15c08e97707480efc697934c8867bbe43ed313e0c7d1e314cce", func := "epact/epactlaw26.PropTells", spec := "propTells", unfollowed := true, recurses := true, apart := false }
def PropTellsSaid : Prop := propTellsRow.holds Tryz.pinned (OpenSpec.ofChange propTellsSpec)

/-- ITS FALSE NEIGHBOUR: 'it returns false'. Refute it at one input. -/
def propTellsWrong : ChangeSpec := { name := "propTells", fn := fun _ => fun
  | [d1, d2, d3] => { results := [.lit (.bool false)], args := [d1, d2, d3] }
  | _ => none }
def PropTellsWrongFalsely : Prop := propTellsRow.holds Tryz.pinned (OpenSpec.ofChange propTellsWrong)

/- THE SECOND FORM. 'bulk': how many values and letters a reading holds, each counted each time it is reached (what is shared counts as often as it is met; a slice's spare places count too). A statement '..UptoSaid' is the law's where the arguments, and the package variables that the reading takes, are together of bulk at most 1048576: NARROWER than '..Said'. Prove '..Said' where nothing that the law and all that it calls make is longer than what came in: it says more and counts as full. Else prove '..UptoSaid'. A law counts once. -/
mutual
def uptoBulk {H : Type} : DataW H → Nat
  | .lit (.string bytes) => bytes.length + 1
  | .lit _ => 1
  | .nil => 1
  | .ptr d => uptoBulk d + 1
  | .slice elems spare => uptoBulkAll elems + uptoBulkAll spare + 1
  | .agg parts => uptoBulkAll parts + 1
  | .iface _ d => uptoBulk d + 1
  | .map entries => uptoBulkEntries entries + 1
  | .held _ => 1
def uptoBulkAll {H : Type} : List (DataW H) → Nat
  | [] => 0
  | d :: r => uptoBulk d + uptoBulkAll r
def uptoBulkEntries {H : Type} : List (Lit × DataW H) → Nat
  | [] => 0
  | x :: r => uptoBulkEntry x + uptoBulkEntries r
def uptoBulkEntry {H : Type} : Lit × DataW H → Nat
  | (.string bytes, d) => bytes.length + uptoBulk d + 1
  | (_, d) => uptoBulk d + 1
 end
def uptoSmall : (H : Type) → List (DataW H) → Bool := fun _ ds => decide (uptoBulkAll ds ≤ 1048576)
def OpenSpec.upto (s : _root_.Go.ChangeSpec) : _root_.Go.OpenSpec := { _root_.Go.OpenSpec.ofChange s with cond := some uptoSmall }

/-- 'epactlaw26.PropOwn', WHERE WHAT IT READS IS OF BULK AT MOST 1048576: true; the input reads as it did. -/
def propOwnUptoRow : OpenClaim := { program := "ytobglidemkpmaaagreat", sum := "c4225a4a7518c15c08e97707480efc697934c8867bbe43ed313e0c7d1e314cce", func := "epact/epactlaw26.PropOwn", spec := "propOwn", unfollowed := true, recurses := true, apart := false, narrowed := true }
def PropOwnUptoSaid : Prop := propOwnUptoRow.holds Tryz.pinned (OpenSpec.upto propOwnSpec)

/-- 'epactlaw26.PropSound', WHERE WHAT IT READS IS OF BULK AT MOST 1048576: true; the input reads as it did. -/
def propSoundUptoRow : OpenClaim := { program := "ytobglidemkpmaaagreat", sum := "c4225a4a7518c15c08e97707480efc697934c8867bbe43ed313e0c7d1e314cce", func := "epact/epactlaw26.PropSound", spec := "propSound", unfollowed := true, recurses := true, apart := false, narrowed := true }
def PropSoundUptoSaid : Prop := propSoundUptoRow.holds Tryz.pinned (OpenSpec.upto propSoundSpec)

/-- 'epactlaw26.PropNarrows', WHERE WHAT IT READS IS OF BULK AT MOST 1048576: true; the input reads as it did. -/
def propNarrowsUptoRow : OpenClaim := { program := "ytobglidemkpmaaagreat", sum := "c4225a4a7518c15c08e97707480efc697934c8867bbe43ed313e0c7d1e314cce", func := "epact/epactlaw26.PropNarrows", spec := "propNarrows", unfollowed := true, recurses := true, apart := false, narrowed := true }
def PropNarrowsUptoSaid : Prop := propNarrowsUptoRow.holds Tryz.pinned (OpenSpec.upto propNarrowsSpec)

/-- 'epactlaw26.PropTells', WHERE WHAT IT READS IS OF BULK AT MOST 1048576: true; the input reads as it did. -/
def propTellsUptoRow : OpenClaim := { program := "ytobglidemkpmaaagreat", sum := "c4225a4a7518c15c08e97707480efc697934c8867bbe43ed313e0c7d1e314cce", func := "epact/epactlaw26.PropTells", spec := "propTells", unfollowed := true, recurses := true, apart := false, narrowed := true }
def PropTellsUptoSaid : Prop := propTellsUptoRow.holds Tryz.pinned (OpenSpec.upto propTellsSpec)

end Rows
end Go.Proofs.YtobglidemkpmaaaGreat
