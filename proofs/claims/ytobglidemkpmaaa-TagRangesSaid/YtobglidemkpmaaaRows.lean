/-
  No cell of these rows narrows 'for every input' (looked for: loops, veiled, ifaces, maps, wideKeys, modest, calm, conditions, laid).
  DERIVED. THE GIVEN ROWS OF THIS SEAT. 3 by the template 'for every input the law returns true; each argument reads behind the call as it read before'; 0 by the template 'total and deterministic' (their statements: YtobglidemkpmaaaTotals.lean).
  GIVEN WITH THE SEED: the statements are not yours to turn. If you find one false, say at which input.
  Laid BY PROGRAM, IN A SANDBOX (cutbox-rows.mjs): the forced cells as the released guide's own fill.sh prints them over the translation e639eb6628278ad4… (all of the seat's roots in one cut). By AI agents, Wed Nov 11 2026. No macro, syntax, notation, axiom, sorry.
-/
import Derived.Test.YtobglidemkpmaaaChecked
import GoSem.Claim
import GoSem.ClaimJoined
import GoSem.ClaimMapViews
import Derived.JoinedTies
import Derived.KernelRfl
namespace Go.Proofs.Ytobglidemkpmaaa
/- THE CELL 'sum', in the pinned program and in every row, IS THE sha256 OF THE DUMP (.gsa) THAT YtobglidemkpmaaaProg.lean LOADS. Nothing in Lean hashes anything: it is a label: what it is worth is what the hold of that sum in a sandbox is worth. -/
noncomputable def Try.pinned : Pinned := { name := "ytobglidemkpmaaa", sum := "e639eb6628278ad4d5089fcbe5f99122c1d0d8260ce959fa4f0834b00c231b3b", checked := Try.checked }
namespace Rows
def none {H : Type} : Left H := { results := [], args := [] }

/-- 'epactlaw23.TagAdds': WHATEVER THE INPUT: true; the input reads as it did. -/
def tagAddsSpec : ChangeSpec := { name := "tagAdds", fn := fun _ => fun
  | [d1, d2, d3, d4] => { results := [.lit (.bool true)], args := [d1, d2, d3, d4] }
  | _ => none }
def tagAddsRow : OpenClaim := { program := "ytobglidemkpmaaa", sum := "e639eb6628278ad4d5089fcbe5f99122c1d0d8260ce959fa4f0834b00c231b3b", func := "epact/epactlaw23.TagAdds", spec := "tagAdds", unfollowed := true, recurses := true, apart := false }
def TagAddsSaid : Prop := tagAddsRow.holds Try.pinned (OpenSpec.ofChange tagAddsSpec)

/-- ITS FALSE NEIGHBOUR: 'it returns false'. Refute it at one input. -/
def tagAddsWrong : ChangeSpec := { name := "tagAdds", fn := fun _ => fun
  | [d1, d2, d3, d4] => { results := [.lit (.bool false)], args := [d1, d2, d3, d4] }
  | _ => none }
def TagAddsWrongFalsely : Prop := tagAddsRow.holds Try.pinned (OpenSpec.ofChange tagAddsWrong)

/-- 'epactlaw23.TagParts': WHATEVER THE INPUT: true; the input reads as it did. -/
def tagPartsSpec : ChangeSpec := { name := "tagParts", fn := fun _ => fun
  | [d1, d2, d3] => { results := [.lit (.bool true)], args := [d1, d2, d3] }
  | _ => none }
def tagPartsRow : OpenClaim := { program := "ytobglidemkpmaaa", sum := "e639eb6628278ad4d5089fcbe5f99122c1d0d8260ce959fa4f0834b00c231b3b", func := "epact/epactlaw23.TagParts", spec := "tagParts", unfollowed := true, recurses := true, apart := false }
def TagPartsSaid : Prop := tagPartsRow.holds Try.pinned (OpenSpec.ofChange tagPartsSpec)

/-- ITS FALSE NEIGHBOUR: 'it returns false'. Refute it at one input. -/
def tagPartsWrong : ChangeSpec := { name := "tagParts", fn := fun _ => fun
  | [d1, d2, d3] => { results := [.lit (.bool false)], args := [d1, d2, d3] }
  | _ => none }
def TagPartsWrongFalsely : Prop := tagPartsRow.holds Try.pinned (OpenSpec.ofChange tagPartsWrong)

/-- 'epactlaw23.TagRanges': WHATEVER THE INPUT: true; the input reads as it did. -/
def tagRangesSpec : ChangeSpec := { name := "tagRanges", fn := fun _ => fun
  | [d1, d2, d3, d4] => { results := [.lit (.bool true)], args := [d1, d2, d3, d4] }
  | _ => none }
def tagRangesRow : OpenClaim := { program := "ytobglidemkpmaaa", sum := "e639eb6628278ad4d5089fcbe5f99122c1d0d8260ce959fa4f0834b00c231b3b", func := "epact/epactlaw23.TagRanges", spec := "tagRanges", unfollowed := true, recurses := true, apart := false }
def TagRangesSaid : Prop := tagRangesRow.holds Try.pinned (OpenSpec.ofChange tagRangesSpec)

/-- ITS FALSE NEIGHBOUR: 'it returns false'. Refute it at one input. -/
def tagRangesWrong : ChangeSpec := { name := "tagRanges", fn := fun _ => fun
  | [d1, d2, d3, d4] => { results := [.lit (.bool false)], args := [d1, d2, d3, d4] }
  | _ => none }
def TagRangesWrongFalsely : Prop := tagRangesRow.holds Try.pinned (OpenSpec.ofChange tagRangesWrong)

/- THE SECOND FORM. 'bulk': how many values and letters a reading holds, each counted each time it is reached (what is shared counts as often as it is met; a slice's spare places count too). A statement '..UptoSaid' is the law's where the arguments, and the package variables that the reading takes, are together of bulk at most 1048576: NARROWER than '..Said'. Prove '..Said' where nothing that the law and all that it calls make is longer than what came in: it says more and counts as full. Else prove '..UptoSaid'. A law counts once. -/
mutual
def uptoBulk {H : Type} : DataW H → Nat
  | .lit (.string bytes) => bytes.length + 1
  | .lit _ => 1
  | .nil => 1
  | .ptr d => uptoBulk d + 1
  | .slice elems spare => uptoBulkAll elems + uptoBulkAll spare + 1
  | .agg parts => uptoBulkAll parts + 1
  | .iface _ d => uptoBulk d + 1
  | .map entries => uptoBulkEntries entries + 1
  | .held _ => 1
def uptoBulkAll {H : Type} : List (DataW H) → Nat
  | [] => 0
  | d :: r => uptoBulk d + uptoBulkAll r
def uptoBulkEntries {H : Type} : List (Lit × DataW H) → Nat
  | [] => 0
  | x :: r => uptoBulkEntry x + uptoBulkEntries r
def uptoBulkEntry {H : Type} : Lit × DataW H → Nat
  | (.string bytes, d) => bytes.length + uptoBulk d + 1
  | (_, d) => uptoBulk d + 1
 end
def uptoSmall : (H : Type) → List (DataW H) → Bool := fun _ ds => decide (uptoBulkAll ds ≤ 1048576)
def OpenSpec.upto (s : _root_.Go.ChangeSpec) : _root_.Go.OpenSpec := { _root_.Go.OpenSpec.ofChange s with cond := some uptoSmall }

/-- 'epactlaw23.TagAdds', WHERE WHAT IT READS IS OF BULK AT MOST 1048576: true; the input reads as it did. -/
def tagAddsUptoRow : OpenClaim := { program := "ytobglidemkpmaaa", sum := "e639eb6628278ad4d5089fcbe5f99122c1d0d8260ce959fa4f0834b00c231b3b", func := "epact/epactlaw23.TagAdds", spec := "tagAdds", unfollowed := true, recurses := true, apart := false, narrowed := true }
def TagAddsUptoSaid : Prop := tagAddsUptoRow.holds Try.pinned (OpenSpec.upto tagAddsSpec)

/-- 'epactlaw23.TagParts', WHERE WHAT IT READS IS OF BULK AT MOST 1048576: true; the input reads as it did. -/
def tagPartsUptoRow : OpenClaim := { program := "ytobglidemkpmaaa", sum := "e639eb6628278ad4d5089fcbe5f99122c1d0d8260ce959fa4f0834b00c231b3b", func := "epact/epactlaw23.TagParts", spec := "tagParts", unfollowed := true, recurses := true, apart := false, narrowed := true }
def TagPartsUptoSaid : Prop := tagPartsUptoRow.holds Try.pinned (OpenSpec.upto tagPartsSpec)

/-- 'epactlaw23.TagRanges', WHERE WHAT IT READS IS OF BULK AT MOST 1048576: true; the input reads as it did. -/
def tagRangesUptoRow : OpenClaim := { program := "ytobglidemkpmaaa", sum := "e639eb6628278ad4d5089fcbe5f99122c1d0d8260ce959fa4f0834b00c231b3b", func := "epact/epactlaw23.TagRanges", spec := "tagRanges", unfollowed := true, recurses := true, apart := false, narrowed := true }
def TagRangesUptoSaid : Prop := tagRangesUptoRow.holds Try.pinned (OpenSpec.upto tagRangesSpec)

end Rows
end Go.Proofs.Ytobglidemkpmaaa
