/-
  No cell of these rows narrows 'for every input' (looked for: loops, veiled, ifaces, maps, wideKeys, modest, calm, conditions, laid).
  DERIVED. THE GIVEN ROWS OF THIS SEAT. 11 by the template 'for every input the law returns true; each argument reads behind the call as it read before'; 0 by the template 'total and deterministic' (their statements: YtochhophekfmbaaTotals.lean).
  GIVEN WITH THE SEED: the statements are not yours to turn. If you find one false, say at which input.
  Laid BY PROGRAM, IN A SANDBOX (cutbox-rows.mjs): the forced cells as the released guide's own fill.sh prints them over the translation 247faa8a76230e14… (all of the seat's roots in one cut). By AI agents, Wed Nov 11 2026. No macro, syntax, notation, axiom, sorry.
-/
import Derived.Test.YtochhophekfmbaaChecked
import GoSem.Claim
import GoSem.ClaimJoined
import GoSem.ClaimMapViews
import Derived.JoinedTies
import Derived.KernelRfl
namespace Go.Proofs.Ytochhophekfmbaa
/- THE CELL 'sum', in the pinned program and in every row, IS THE sha256 OF THE DUMP (.gsa) THAT YtochhophekfmbaaProg.lean LOADS. Nothing in Lean hashes anything: it is a label: what it is worth is what the hold of that sum in a sandbox is worth. -/
noncomputable def Try.pinned : Pinned := { name := "ytochhophekfmbaa", sum := "247faa8a76230e14f3856412c95dbcd612ffb6c222d152a4de210da84c0f5b42", checked := Try.checked }
namespace Rows
def none {H : Type} : Left H := { results := [], args := [] }

/-- 'epactlaw01.SafeRests': WHATEVER THE INPUT: true; the input reads as it did. -/
def safeRestsSpec : ChangeSpec := { name := "safeRests", fn := fun _ => fun
  | [d1, d2] => { results := [.lit (.bool true)], args := [d1, d2] }
  | _ => none }
def safeRestsRow : OpenClaim := { program := "ytochhophekfmbaa", sum := "247faa8a76230e14f3856412c95dbcd612ffb6c222d152a4de210da84c0f5b42", func := "epact/epactlaw01.SafeRests", spec := "safeRests", apart := false }
def SafeRestsSaid : Prop := safeRestsRow.holds Try.pinned (OpenSpec.ofChange safeRestsSpec)

/-- ITS FALSE NEIGHBOUR: 'it returns false'. Refute it at one input. -/
def safeRestsWrong : ChangeSpec := { name := "safeRests", fn := fun _ => fun
  | [d1, d2] => { results := [.lit (.bool false)], args := [d1, d2] }
  | _ => none }
def SafeRestsWrongFalsely : Prop := safeRestsRow.holds Try.pinned (OpenSpec.ofChange safeRestsWrong)

/-- 'epactlaw01.SafeCommon': WHATEVER THE INPUT: true; the input reads as it did. -/
def safeCommonSpec : ChangeSpec := { name := "safeCommon", fn := fun _ => fun
  | [d1, d2, d3] => { results := [.lit (.bool true)], args := [d1, d2, d3] }
  | _ => none }
def safeCommonRow : OpenClaim := { program := "ytochhophekfmbaa", sum := "247faa8a76230e14f3856412c95dbcd612ffb6c222d152a4de210da84c0f5b42", func := "epact/epactlaw01.SafeCommon", spec := "safeCommon", apart := false }
def SafeCommonSaid : Prop := safeCommonRow.holds Try.pinned (OpenSpec.ofChange safeCommonSpec)

/-- ITS FALSE NEIGHBOUR: 'it returns false'. Refute it at one input. -/
def safeCommonWrong : ChangeSpec := { name := "safeCommon", fn := fun _ => fun
  | [d1, d2, d3] => { results := [.lit (.bool false)], args := [d1, d2, d3] }
  | _ => none }
def SafeCommonWrongFalsely : Prop := safeCommonRow.holds Try.pinned (OpenSpec.ofChange safeCommonWrong)

/-- 'epactlaw01.SafeTells': WHATEVER THE INPUT: true; the input reads as it did. -/
def safeTellsSpec : ChangeSpec := { name := "safeTells", fn := fun _ => fun
  | [d1, d2] => { results := [.lit (.bool true)], args := [d1, d2] }
  | _ => none }
def safeTellsRow : OpenClaim := { program := "ytochhophekfmbaa", sum := "247faa8a76230e14f3856412c95dbcd612ffb6c222d152a4de210da84c0f5b42", func := "epact/epactlaw01.SafeTells", spec := "safeTells", apart := false }
def SafeTellsSaid : Prop := safeTellsRow.holds Try.pinned (OpenSpec.ofChange safeTellsSpec)

/-- ITS FALSE NEIGHBOUR: 'it returns false'. Refute it at one input. -/
def safeTellsWrong : ChangeSpec := { name := "safeTells", fn := fun _ => fun
  | [d1, d2] => { results := [.lit (.bool false)], args := [d1, d2] }
  | _ => none }
def SafeTellsWrongFalsely : Prop := safeTellsRow.holds Try.pinned (OpenSpec.ofChange safeTellsWrong)

/-- 'epactlaw01.SafeBack': WHATEVER THE INPUT: true; the input reads as it did. -/
def safeBackSpec : ChangeSpec := { name := "safeBack", fn := fun _ => fun
  | [d1, d2] => { results := [.lit (.bool true)], args := [d1, d2] }
  | _ => none }
def safeBackRow : OpenClaim := { program := "ytochhophekfmbaa", sum := "247faa8a76230e14f3856412c95dbcd612ffb6c222d152a4de210da84c0f5b42", func := "epact/epactlaw01.SafeBack", spec := "safeBack", apart := false }
def SafeBackSaid : Prop := safeBackRow.holds Try.pinned (OpenSpec.ofChange safeBackSpec)

/-- ITS FALSE NEIGHBOUR: 'it returns false'. Refute it at one input. -/
def safeBackWrong : ChangeSpec := { name := "safeBack", fn := fun _ => fun
  | [d1, d2] => { results := [.lit (.bool false)], args := [d1, d2] }
  | _ => none }
def SafeBackWrongFalsely : Prop := safeBackRow.holds Try.pinned (OpenSpec.ofChange safeBackWrong)

/-- 'epactlaw01.SafeBounds': WHATEVER THE INPUT: true; the input reads as it did. -/
def safeBoundsSpec : ChangeSpec := { name := "safeBounds", fn := fun _ => fun
  | [d1, d2] => { results := [.lit (.bool true)], args := [d1, d2] }
  | _ => none }
def safeBoundsRow : OpenClaim := { program := "ytochhophekfmbaa", sum := "247faa8a76230e14f3856412c95dbcd612ffb6c222d152a4de210da84c0f5b42", func := "epact/epactlaw01.SafeBounds", spec := "safeBounds", apart := false }
def SafeBoundsSaid : Prop := safeBoundsRow.holds Try.pinned (OpenSpec.ofChange safeBoundsSpec)

/-- ITS FALSE NEIGHBOUR: 'it returns false'. Refute it at one input. -/
def safeBoundsWrong : ChangeSpec := { name := "safeBounds", fn := fun _ => fun
  | [d1, d2] => { results := [.lit (.bool false)], args := [d1, d2] }
  | _ => none }
def SafeBoundsWrongFalsely : Prop := safeBoundsRow.holds Try.pinned (OpenSpec.ofChange safeBoundsWrong)

/-- 'epactlaw01.SafeOrder': WHATEVER THE INPUT: true; the input reads as it did. -/
def safeOrderSpec : ChangeSpec := { name := "safeOrder", fn := fun _ => fun
  | [d1, d2, d3] => { results := [.lit (.bool true)], args := [d1, d2, d3] }
  | _ => none }
def safeOrderRow : OpenClaim := { program := "ytochhophekfmbaa", sum := "247faa8a76230e14f3856412c95dbcd612ffb6c222d152a4de210da84c0f5b42", func := "epact/epactlaw01.SafeOrder", spec := "safeOrder", apart := false }
def SafeOrderSaid : Prop := safeOrderRow.holds Try.pinned (OpenSpec.ofChange safeOrderSpec)

/-- ITS FALSE NEIGHBOUR: 'it returns false'. Refute it at one input. -/
def safeOrderWrong : ChangeSpec := { name := "safeOrder", fn := fun _ => fun
  | [d1, d2, d3] => { results := [.lit (.bool false)], args := [d1, d2, d3] }
  | _ => none }
def SafeOrderWrongFalsely : Prop := safeOrderRow.holds Try.pinned (OpenSpec.ofChange safeOrderWrong)

/-- 'epactlaw24.StpTells': WHATEVER THE INPUT: true; the input reads as it did. -/
def stpTellsSpec : ChangeSpec := { name := "stpTells", fn := fun _ => fun
  | [d1, d2, d3, d4] => { results := [.lit (.bool true)], args := [d1, d2, d3, d4] }
  | _ => none }
def stpTellsRow : OpenClaim := { program := "ytochhophekfmbaa", sum := "247faa8a76230e14f3856412c95dbcd612ffb6c222d152a4de210da84c0f5b42", func := "epact/epactlaw24.StpTells", spec := "stpTells", unfollowed := true, recurses := true, apart := false }
def StpTellsSaid : Prop := stpTellsRow.holds Try.pinned (OpenSpec.ofChange stpTellsSpec)

/-- ITS FALSE NEIGHBOUR: 'it returns false'. Refute it at one input. -/
def stpTellsWrong : ChangeSpec := { name := "stpTells", fn := fun _ => fun
  | [d1, d2, d3, d4] => { results := [.lit (.bool false)], args := [d1, d2, d3, d4] }
  | _ => none }
def StpTellsWrongFalsely : Prop := stpTellsRow.holds Try.pinned (OpenSpec.ofChange stpTellsWrong)

/-- 'epactlaw24.StpSame': WHATEVER THE INPUT: true; the input reads as it did. -/
def stpSameSpec : ChangeSpec := { name := "stpSame", fn := fun _ => fun
  | [d1, d2, d3] => { results := [.lit (.bool true)], args := [d1, d2, d3] }
  | _ => none }
def stpSameRow : OpenClaim := { program := "ytochhophekfmbaa", sum := "247faa8a76230e14f3856412c95dbcd612ffb6c222d152a4de210da84c0f5b42", func := "epact/epactlaw24.StpSame", spec := "stpSame", unfollowed := true, recurses := true, apart := false }
def StpSameSaid : Prop := stpSameRow.holds Try.pinned (OpenSpec.ofChange stpSameSpec)

/-- ITS FALSE NEIGHBOUR: 'it returns false'. Refute it at one input. -/
def stpSameWrong : ChangeSpec := { name := "stpSame", fn := fun _ => fun
  | [d1, d2, d3] => { results := [.lit (.bool false)], args := [d1, d2, d3] }
  | _ => none }
def StpSameWrongFalsely : Prop := stpSameRow.holds Try.pinned (OpenSpec.ofChange stpSameWrong)

/-- 'epactlaw24.StpWays': WHATEVER THE INPUT: true; the input reads as it did. -/
def stpWaysSpec : ChangeSpec := { name := "stpWays", fn := fun _ => fun
  | [d1, d2] => { results := [.lit (.bool true)], args := [d1, d2] }
  | _ => none }
def stpWaysRow : OpenClaim := { program := "ytochhophekfmbaa", sum := "247faa8a76230e14f3856412c95dbcd612ffb6c222d152a4de210da84c0f5b42", func := "epact/epactlaw24.StpWays", spec := "stpWays", unfollowed := true, recurses := true, apart := false }
def StpWaysSaid : Prop := stpWaysRow.holds Try.pinned (OpenSpec.ofChange stpWaysSpec)

/-- ITS FALSE NEIGHBOUR: 'it returns false'. Refute it at one input. -/
def stpWaysWrong : ChangeSpec := { name := "stpWays", fn := fun _ => fun
  | [d1, d2] => { results := [.lit (.bool false)], args := [d1, d2] }
  | _ => none }
def StpWaysWrongFalsely : Prop := stpWaysRow.holds Try.pinned (OpenSpec.ofChange stpWaysWrong)

/-- 'epactlaw24.StpLower': WHATEVER THE INPUT: true; the input reads as it did. -/
def stpLowerSpec : ChangeSpec := { name := "stpLower", fn := fun _ => fun
  | [d1, d2, d3] => { results := [.lit (.bool true)], args := [d1, d2, d3] }
  | _ => none }
def stpLowerRow : OpenClaim := { program := "ytochhophekfmbaa", sum := "247faa8a76230e14f3856412c95dbcd612ffb6c222d152a4de210da84c0f5b42", func := "epact/epactlaw24.StpLower", spec := "stpLower", unfollowed := true, recurses := true, apart := false }
def StpLowerSaid : Prop := stpLowerRow.holds Try.pinned (OpenSpec.ofChange stpLowerSpec)

/-- ITS FALSE NEIGHBOUR: 'it returns false'. Refute it at one input. -/
def stpLowerWrong : ChangeSpec := { name := "stpLower", fn := fun _ => fun
  | [d1, d2, d3] => { results := [.lit (.bool false)], args := [d1, d2, d3] }
  | _ => none }
def StpLowerWrongFalsely : Prop := stpLowerRow.holds Try.pinned (OpenSpec.ofChange stpLowerWrong)

/-- 'epactlaw24.StpOwn': WHATEVER THE INPUT: true; the input reads as it did. -/
def stpOwnSpec : ChangeSpec := { name := "stpOwn", fn := fun _ => fun
  | [d1, d2] => { results := [.lit (.bool true)], args := [d1, d2] }
  | _ => none }
def stpOwnRow : OpenClaim := { program := "ytochhophekfmbaa", sum := "247faa8a76230e14f3856412c95dbcd612ffb6c222d152a4de210da84c0f5b42", func := "epact/epactlaw24.StpOwn", spec := "stpOwn", unfollowed := true, recurses := true, apart := false }
def StpOwnSaid : Prop := stpOwnRow.holds Try.pinned (OpenSpec.ofChange stpOwnSpec)

/-- ITS FALSE NEIGHBOUR: 'it returns false'. Refute it at one input. -/
def stpOwnWrong : ChangeSpec := { name := "stpOwn", fn := fun _ => fun
  | [d1, d2] => { results := [.lit (.bool false)], args := [d1, d2] }
  | _ => none }
def StpOwnWrongFalsely : Prop := stpOwnRow.holds Try.pinned (OpenSpec.ofChange stpOwnWrong)

/- THE SECOND FORM. 'bulk': how many values and letters a reading holds, each counted each time it is reached (what is shared counts as often as it is met; a slice's spare places count too). A statement '..UptoSaid' is the law's where the arguments, and the package variables that the reading takes, are together of bulk at most 1048576: NARROWER than '..Said'. Prove '..Said' where nothing that the law and all that it calls make is longer than what came in: it says more and counts as full. Else prove '..UptoSaid'. A law counts once. -/
mutual
def uptoBulk {H : Type} : DataW H → Nat
  | .lit (.string bytes) => bytes.length + 1
  | .lit _ => 1
  | .nil => 1
  | .ptr d => uptoBulk d + 1
  | .slice elems spare => uptoBulkAll elems + uptoBulkAll spare + 1
  | .agg parts => uptoBulkAll parts + 1
  | .iface _ d => uptoBulk d + 1
  | .map entries => uptoBulkEntries entries + 1
  | .held _ => 1
def uptoBulkAll {H : Type} : List (DataW H) → Nat
  | [] => 0
  | d :: r => uptoBulk d + uptoBulkAll r
def uptoBulkEntries {H : Type} : List (Lit × DataW H) → Nat
  | [] => 0
  | x :: r => uptoBulkEntry x + uptoBulkEntries r
def uptoBulkEntry {H : Type} : Lit × DataW H → Nat
  | (.string bytes, d) => bytes.length + uptoBulk d + 1
  | (_, d) => uptoBulk d + 1
 end
def uptoSmall : (H : Type) → List (DataW H) → Bool := fun _ ds => decide (uptoBulkAll ds ≤ 1048576)
def OpenSpec.upto (s : _root_.Go.ChangeSpec) : _root_.Go.OpenSpec := { _root_.Go.OpenSpec.ofChange s with cond := some uptoSmall }

/-- 'epactlaw01.SafeRests', WHERE WHAT IT READS IS OF BULK AT MOST 1048576: true; the input reads as it did. -/
def safeRestsUptoRow : OpenClaim := { program := "ytochhophekfmbaa", sum := "247faa8a76230e14f3856412c95dbcd612ffb6c222d152a4de210da84c0f5b42", func := "epact/epactlaw01.SafeRests", spec := "safeRests", apart := false, narrowed := true }
def SafeRestsUptoSaid : Prop := safeRestsUptoRow.holds Try.pinned (OpenSpec.upto safeRestsSpec)

/-- 'epactlaw01.SafeCommon', WHERE WHAT IT READS IS OF BULK AT MOST 1048576: true; the input reads as it did. -/
def safeCommonUptoRow : OpenClaim := { program := "ytochhophekfmbaa", sum := "247faa8a76230e14f3856412c95dbcd612ffb6c222d152a4de210da84c0f5b42", func := "epact/epactlaw01.SafeCommon", spec := "safeCommon", apart := false, narrowed := true }
def SafeCommonUptoSaid : Prop := safeCommonUptoRow.holds Try.pinned (OpenSpec.upto safeCommonSpec)

/-- 'epactlaw01.SafeTells', WHERE WHAT IT READS IS OF BULK AT MOST 1048576: true; the input reads as it did. -/
def safeTellsUptoRow : OpenClaim := { program := "ytochhophekfmbaa", sum := "247faa8a76230e14f3856412c95dbcd612ffb6c222d152a4de210da84c0f5b42", func := "epact/epactlaw01.SafeTells", spec := "safeTells", apart := false, narrowed := true }
def SafeTellsUptoSaid : Prop := safeTellsUptoRow.holds Try.pinned (OpenSpec.upto safeTellsSpec)

/-- 'epactlaw01.SafeBack', WHERE WHAT IT READS IS OF BULK AT MOST 1048576: true; the input reads as it did. -/
def safeBackUptoRow : OpenClaim := { program := "ytochhophekfmbaa", sum := "247faa8a76230e14f3856412c95dbcd612ffb6c222d152a4de210da84c0f5b42", func := "epact/epactlaw01.SafeBack", spec := "safeBack", apart := false, narrowed := true }
def SafeBackUptoSaid : Prop := safeBackUptoRow.holds Try.pinned (OpenSpec.upto safeBackSpec)

/-- 'epactlaw01.SafeBounds', WHERE WHAT IT READS IS OF BULK AT MOST 1048576: true; the input reads as it did. -/
def safeBoundsUptoRow : OpenClaim := { program := "ytochhophekfmbaa", sum := "247faa8a76230e14f3856412c95dbcd612ffb6c222d152a4de210da84c0f5b42", func := "epact/epactlaw01.SafeBounds", spec := "safeBounds", apart := false, narrowed := true }
def SafeBoundsUptoSaid : Prop := safeBoundsUptoRow.holds Try.pinned (OpenSpec.upto safeBoundsSpec)

/-- 'epactlaw01.SafeOrder', WHERE WHAT IT READS IS OF BULK AT MOST 1048576: true; the input reads as it did. -/
def safeOrderUptoRow : OpenClaim := { program := "ytochhophekfmbaa", sum := "247faa8a76230e14f3856412c95dbcd612ffb6c222d152a4de210da84c0f5b42", func := "epact/epactlaw01.SafeOrder", spec := "safeOrder", apart := false, narrowed := true }
def SafeOrderUptoSaid : Prop := safeOrderUptoRow.holds Try.pinned (OpenSpec.upto safeOrderSpec)

/-- 'epactlaw24.StpTells', WHERE WHAT IT READS IS OF BULK AT MOST 1048576: true; the input reads as it did. -/
def stpTellsUptoRow : OpenClaim := { program := "ytochhophekfmbaa", sum := "247faa8a76230e14f3856412c95dbcd612ffb6c222d152a4de210da84c0f5b42", func := "epact/epactlaw24.StpTells", spec := "stpTells", unfollowed := true, recurses := true, apart := false, narrowed := true }
def StpTellsUptoSaid : Prop := stpTellsUptoRow.holds Try.pinned (OpenSpec.upto stpTellsSpec)

/-- 'epactlaw24.StpSame', WHERE WHAT IT READS IS OF BULK AT MOST 1048576: true; the input reads as it did. -/
def stpSameUptoRow : OpenClaim := { program := "ytochhophekfmbaa", sum := "247faa8a76230e14f3856412c95dbcd612ffb6c222d152a4de210da84c0f5b42", func := "epact/epactlaw24.StpSame", spec := "stpSame", unfollowed := true, recurses := true, apart := false, narrowed := true }
def StpSameUptoSaid : Prop := stpSameUptoRow.holds Try.pinned (OpenSpec.upto stpSameSpec)

/-- 'epactlaw24.StpWays', WHERE WHAT IT READS IS OF BULK AT MOST 1048576: true; the input reads as it did. -/
def stpWaysUptoRow : OpenClaim := { program := "ytochhophekfmbaa", sum := "247faa8a76230e14f3856412c95dbcd612ffb6c222d152a4de210da84c0f5b42", func := "epact/epactlaw24.StpWays", spec := "stpWays", unfollowed := true, recurses := true, apart := false, narrowed := true }
def StpWaysUptoSaid : Prop := stpWaysUptoRow.holds Try.pinned (OpenSpec.upto stpWaysSpec)

/-- 'epactlaw24.StpLower', WHERE WHAT IT READS IS OF BULK AT MOST 1048576: true; the input reads as it did. -/
def stpLowerUptoRow : OpenClaim := { program := "ytochhophekfmbaa", sum := "247faa8a76230e14f3856412c95dbcd612ffb6c222d152a4de210da84c0f5b42", func := "epact/epactlaw24.StpLower", spec := "stpLower", unfollowed := true, recurses := true, apart := false, narrowed := true }
def StpLowerUptoSaid : Prop := stpLowerUptoRow.holds Try.pinned (OpenSpec.upto stpLowerSpec)

/-- 'epactlaw24.StpOwn', WHERE WHAT IT READS IS OF BULK AT MOST 1048576: true; the input reads as it did. -/
def stpOwnUptoRow : OpenClaim := { program := "ytochhophekfmbaa", sum := "247faa8a76230e14f3856412c95dbcd612ffb6c222d152a4de210da84c0f5b42", func := "epact/epactlaw24.StpOwn", spec := "stpOwn", unfollowed := true, recurses := true, apart := false, narrowed := true }
def StpOwnUptoSaid : Prop := stpOwnUptoRow.holds Try.pinned (OpenSpec.upto stpOwnSpec)

end Rows
end Go.Proofs.Ytochhophekfmbaa
