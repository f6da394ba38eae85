/-
  No cell of these rows narrows 'for every input' (looked for: loops, veiled, ifaces, maps, wideKeys, modest, calm, conditions, laid).
  DERIVED. THE GIVEN ROWS OF THIS SEAT. 9 by the template 'for every input the law returns true; each argument reads behind the call as it read before'; 0 by the template 'total and deterministic' (their statements: YtefaoeaohhdhkaaTotals.lean).
  GIVEN WITH THE SEED: the statements are not yours to turn. If you find one false, say at which input.
  Laid BY PROGRAM, IN A SANDBOX (cutbox-rows.mjs): the forced cells as the released guide's own fill.sh prints them over the translation 0d2fdb807e3c6863… (all of the seat's roots in one cut). By AI agents, Wed Nov 11 2026. No macro, syntax, notation, axiom, sorry.
-/
import Derived.Test.YtefaoeaohhdhkaaChecked
import GoSem.Claim
import GoSem.ClaimJoined
import GoSem.ClaimMapViews
import Derived.JoinedTies
import Derived.KernelRfl
namespace Go.Proofs.Ytefaoeaohhdhkaa
/- THE CELL 'sum', in the pinned program and in every row, IS THE sha256 OF THE DUMP (.gsa) THAT YtefaoeaohhdhkaaProg.lean LOADS. Nothing in Lean hashes anything: it is a label: what it is worth is what the hold of that sum in a sandbox is worth. -/
noncomputable def Try.pinned : Pinned := { name := "ytefaoeaohhdhkaa", sum := "0d2fdb807e3c6863cbfbfc6a28c062af0c1da953d329561eac2480ac1bd5c2b3", checked := Try.checked }
namespace Rows
def none {H : Type} : Left H := { results := [], args := [] }

/-- 'epactlaw05.FormNext': WHATEVER THE INPUT: true; the input reads as it did. -/
def formNextSpec : ChangeSpec := { name := "formNext", fn := fun _ => fun
  | [d1, d2] => { results := [.lit (.bool true)], args := [d1, d2] }
  | _ => none }
def formNextRow : OpenClaim := { program := "ytefaoeaohhdhkaa", sum := "0d2fdb807e3c6863cbfbfc6a28c062af0c1da953d329561eac2480ac1bd5c2b3", func := "epact/epactlaw05.FormNext", spec := "formNext", unfollowed := true, recurses := true, apart := false }
def FormNextSaid : Prop := formNextRow.holds Try.pinned (OpenSpec.ofChange formNextSpec)

/-- ITS FALSE NEIGHBOUR: 'it returns false'. Refute it at one input. -/
def formNextWrong : ChangeSpec := { name := "formNext", fn := fun _ => fun
  | [d1, d2] => { results := [.lit (.bool false)], args := [d1, d2] }
  | _ => none }
def FormNextWrongFalsely : Prop := formNextRow.holds Try.pinned (OpenSpec.ofChange formNextWrong)

/-- 'epactlaw05.FormOrder': WHATEVER THE INPUT: true; the input reads as it did. -/
def formOrderSpec : ChangeSpec := { name := "formOrder", fn := fun _ => fun
  | [d1, d2, d3] => { results := [.lit (.bool true)], args := [d1, d2, d3] }
  | _ => none }
def formOrderRow : OpenClaim := { program := "ytefaoeaohhdhkaa", sum := "0d2fdb807e3c6863cbfbfc6a28c062af0c1da953d329561eac2480ac1bd5c2b3", func := "epact/epactlaw05.FormOrder", spec := "formOrder", unfollowed := true, recurses := true, apart := false }
def FormOrderSaid : Prop := formOrderRow.holds Try.pinned (OpenSpec.ofChange formOrderSpec)

/-- ITS FALSE NEIGHBOUR: 'it returns false'. Refute it at one input. -/
def formOrderWrong : ChangeSpec := { name := "formOrder", fn := fun _ => fun
  | [d1, d2, d3] => { results := [.lit (.bool false)], args := [d1, d2, d3] }
  | _ => none }
def FormOrderWrongFalsely : Prop := formOrderRow.holds Try.pinned (OpenSpec.ofChange formOrderWrong)

/-- 'epactlaw05.FormTurns': WHATEVER THE INPUT: true; the input reads as it did. -/
def formTurnsSpec : ChangeSpec := { name := "formTurns", fn := fun _ => fun
  | [d1, d2] => { results := [.lit (.bool true)], args := [d1, d2] }
  | _ => none }
def formTurnsRow : OpenClaim := { program := "ytefaoeaohhdhkaa", sum := "0d2fdb807e3c6863cbfbfc6a28c062af0c1da953d329561eac2480ac1bd5c2b3", func := "epact/epactlaw05.FormTurns", spec := "formTurns", unfollowed := true, recurses := true, apart := false }
def FormTurnsSaid : Prop := formTurnsRow.holds Try.pinned (OpenSpec.ofChange formTurnsSpec)

/-- ITS FALSE NEIGHBOUR: 'it returns false'. Refute it at one input. -/
def formTurnsWrong : ChangeSpec := { name := "formTurns", fn := fun _ => fun
  | [d1, d2] => { results := [.lit (.bool false)], args := [d1, d2] }
  | _ => none }
def FormTurnsWrongFalsely : Prop := formTurnsRow.holds Try.pinned (OpenSpec.ofChange formTurnsWrong)

/-- 'epactlaw05.FormOwn': WHATEVER THE INPUT: true; the input reads as it did. -/
def formOwnSpec : ChangeSpec := { name := "formOwn", fn := fun _ => fun
  | [d1, d2] => { results := [.lit (.bool true)], args := [d1, d2] }
  | _ => none }
def formOwnRow : OpenClaim := { program := "ytefaoeaohhdhkaa", sum := "0d2fdb807e3c6863cbfbfc6a28c062af0c1da953d329561eac2480ac1bd5c2b3", func := "epact/epactlaw05.FormOwn", spec := "formOwn", unfollowed := true, recurses := true, apart := false }
def FormOwnSaid : Prop := formOwnRow.holds Try.pinned (OpenSpec.ofChange formOwnSpec)

/-- ITS FALSE NEIGHBOUR: 'it returns false'. Refute it at one input. -/
def formOwnWrong : ChangeSpec := { name := "formOwn", fn := fun _ => fun
  | [d1, d2] => { results := [.lit (.bool false)], args := [d1, d2] }
  | _ => none }
def FormOwnWrongFalsely : Prop := formOwnRow.holds Try.pinned (OpenSpec.ofChange formOwnWrong)

/-- 'epactlaw06.CanonTells': WHATEVER THE INPUT: true; the input reads as it did. -/
def canonTellsSpec : ChangeSpec := { name := "canonTells", fn := fun _ => fun
  | [d] => { results := [.lit (.bool true)], args := [d] }
  | _ => none }
def canonTellsRow : OpenClaim := { program := "ytefaoeaohhdhkaa", sum := "0d2fdb807e3c6863cbfbfc6a28c062af0c1da953d329561eac2480ac1bd5c2b3", func := "epact/epactlaw06.CanonTells", spec := "canonTells", unfollowed := true, recurses := true, apart := false }
def CanonTellsSaid : Prop := canonTellsRow.holds Try.pinned (OpenSpec.ofChange canonTellsSpec)

/-- ITS FALSE NEIGHBOUR: 'it returns false'. Refute it at one input. -/
def canonTellsWrong : ChangeSpec := { name := "canonTells", fn := fun _ => fun
  | [d] => { results := [.lit (.bool false)], args := [d] }
  | _ => none }
def CanonTellsWrongFalsely : Prop := canonTellsRow.holds Try.pinned (OpenSpec.ofChange canonTellsWrong)

/-- 'epactlaw06.CanonSame': WHATEVER THE INPUT: true; the input reads as it did. -/
def canonSameSpec : ChangeSpec := { name := "canonSame", fn := fun _ => fun
  | [d1, d2] => { results := [.lit (.bool true)], args := [d1, d2] }
  | _ => none }
def canonSameRow : OpenClaim := { program := "ytefaoeaohhdhkaa", sum := "0d2fdb807e3c6863cbfbfc6a28c062af0c1da953d329561eac2480ac1bd5c2b3", func := "epact/epactlaw06.CanonSame", spec := "canonSame", unfollowed := true, recurses := true, apart := false }
def CanonSameSaid : Prop := canonSameRow.holds Try.pinned (OpenSpec.ofChange canonSameSpec)

/-- ITS FALSE NEIGHBOUR: 'it returns false'. Refute it at one input. -/
def canonSameWrong : ChangeSpec := { name := "canonSame", fn := fun _ => fun
  | [d1, d2] => { results := [.lit (.bool false)], args := [d1, d2] }
  | _ => none }
def CanonSameWrongFalsely : Prop := canonSameRow.holds Try.pinned (OpenSpec.ofChange canonSameWrong)

/-- 'epactlaw06.CanonKeeps': WHATEVER THE INPUT: true; the input reads as it did. -/
def canonKeepsSpec : ChangeSpec := { name := "canonKeeps", fn := fun _ => fun
  | [d1, d2] => { results := [.lit (.bool true)], args := [d1, d2] }
  | _ => none }
def canonKeepsRow : OpenClaim := { program := "ytefaoeaohhdhkaa", sum := "0d2fdb807e3c6863cbfbfc6a28c062af0c1da953d329561eac2480ac1bd5c2b3", func := "epact/epactlaw06.CanonKeeps", spec := "canonKeeps", unfollowed := true, recurses := true, apart := false }
def CanonKeepsSaid : Prop := canonKeepsRow.holds Try.pinned (OpenSpec.ofChange canonKeepsSpec)

/-- ITS FALSE NEIGHBOUR: 'it returns false'. Refute it at one input. -/
def canonKeepsWrong : ChangeSpec := { name := "canonKeeps", fn := fun _ => fun
  | [d1, d2] => { results := [.lit (.bool false)], args := [d1, d2] }
  | _ => none }
def CanonKeepsWrongFalsely : Prop := canonKeepsRow.holds Try.pinned (OpenSpec.ofChange canonKeepsWrong)

/-- 'epactlaw06.CanonTurns': WHATEVER THE INPUT: true; the input reads as it did. -/
def canonTurnsSpec : ChangeSpec := { name := "canonTurns", fn := fun _ => fun
  | [d1, d2, d3] => { results := [.lit (.bool true)], args := [d1, d2, d3] }
  | _ => none }
def canonTurnsRow : OpenClaim := { program := "ytefaoeaohhdhkaa", sum := "0d2fdb807e3c6863cbfbfc6a28c062af0c1da953d329561eac2480ac1bd5c2b3", func := "epact/epactlaw06.CanonTurns", spec := "canonTurns", unfollowed := true, recurses := true, apart := false }
def CanonTurnsSaid : Prop := canonTurnsRow.holds Try.pinned (OpenSpec.ofChange canonTurnsSpec)

/-- ITS FALSE NEIGHBOUR: 'it returns false'. Refute it at one input. -/
def canonTurnsWrong : ChangeSpec := { name := "canonTurns", fn := fun _ => fun
  | [d1, d2, d3] => { results := [.lit (.bool false)], args := [d1, d2, d3] }
  | _ => none }
def CanonTurnsWrongFalsely : Prop := canonTurnsRow.holds Try.pinned (OpenSpec.ofChange canonTurnsWrong)

/-- 'epactlaw06.CanonUnlike': WHATEVER THE INPUT: true; the input reads as it did. -/
def canonUnlikeSpec : ChangeSpec := { name := "canonUnlike", fn := fun _ => fun
  | [d1, d2] => { results := [.lit (.bool true)], args := [d1, d2] }
  | _ => none }
def canonUnlikeRow : OpenClaim := { program := "ytefaoeaohhdhkaa", sum := "0d2fdb807e3c6863cbfbfc6a28c062af0c1da953d329561eac2480ac1bd5c2b3", func := "epact/epactlaw06.CanonUnlike", spec := "canonUnlike", unfollowed := true, recurses := true, apart := false }
def CanonUnlikeSaid : Prop := canonUnlikeRow.holds Try.pinned (OpenSpec.ofChange canonUnlikeSpec)

/-- ITS FALSE NEIGHBOUR: 'it returns false'. Refute it at one input. -/
def canonUnlikeWrong : ChangeSpec := { name := "canonUnlike", fn := fun _ => fun
  | [d1, d2] => { results := [.lit (.bool false)], args := [d1, d2] }
  | _ => none }
def CanonUnlikeWrongFalsely : Prop := canonUnlikeRow.holds Try.pinned (OpenSpec.ofChange canonUnlikeWrong)

/- THE SECOND FORM. 'bulk': how many values and letters a reading holds, each counted each time it is reached (what is shared counts as often as it is met; a slice's spare places count too). A statement '..UptoSaid' is the law's where the arguments, and the package variables that the reading takes, are together of bulk at most 1048576: NARROWER than '..Said'. Prove '..Said' where nothing that the law and all that it calls make is longer than what came in: it says more and counts as full. Else prove '..UptoSaid'. A law counts once. -/
mutual
def uptoBulk {H : Type} : DataW H → Nat
  | .lit (.string bytes) => bytes.length + 1
  | .lit _ => 1
  | .nil => 1
  | .ptr d => uptoBulk d + 1
  | .slice elems spare => uptoBulkAll elems + uptoBulkAll spare + 1
  | .agg parts => uptoBulkAll parts + 1
  | .iface _ d => uptoBulk d + 1
  | .map entries => uptoBulkEntries entries + 1
  | .held _ => 1
def uptoBulkAll {H : Type} : List (DataW H) → Nat
  | [] => 0
  | d :: r => uptoBulk d + uptoBulkAll r
def uptoBulkEntries {H : Type} : List (Lit × DataW H) → Nat
  | [] => 0
  | x :: r => uptoBulkEntry x + uptoBulkEntries r
def uptoBulkEntry {H : Type} : Lit × DataW H → Nat
  | (.string bytes, d) => bytes.length + uptoBulk d + 1
  | (_, d) => uptoBulk d + 1
 end
def uptoSmall : (H : Type) → List (DataW H) → Bool := fun _ ds => decide (uptoBulkAll ds ≤ 1048576)
def OpenSpec.upto (s : _root_.Go.ChangeSpec) : _root_.Go.OpenSpec := { _root_.Go.OpenSpec.ofChange s with cond := some uptoSmall }

/-- 'epactlaw05.FormNext', WHERE WHAT IT READS IS OF BULK AT MOST 1048576: true; the input reads as it did. -/
def formNextUptoRow : OpenClaim := { program := "ytefaoeaohhdhkaa", sum := "0d2fdb807e3c6863cbfbfc6a28c062af0c1da953d329561eac2480ac1bd5c2b3", func := "epact/epactlaw05.FormNext", spec := "formNext", unfollowed := true, recurses := true, apart := false, narrowed := true }
def FormNextUptoSaid : Prop := formNextUptoRow.holds Try.pinned (OpenSpec.upto formNextSpec)

/-- 'epactlaw05.FormOrder', WHERE WHAT IT READS IS OF BULK AT MOST 1048576: true; the input reads as it did. -/
def formOrderUptoRow : OpenClaim := { program := "ytefaoeaohhdhkaa", sum := "0d2fdb807e3c6863cbfbfc6a28c062af0c1da953d329561eac2480ac1bd5c2b3", func := "epact/epactlaw05.FormOrder", spec := "formOrder", unfollowed := true, recurses := true, apart := false, narrowed := true }
def FormOrderUptoSaid : Prop := formOrderUptoRow.holds Try.pinned (OpenSpec.upto formOrderSpec)

/-- 'epactlaw05.FormTurns', WHERE WHAT IT READS IS OF BULK AT MOST 1048576: true; the input reads as it did. -/
def formTurnsUptoRow : OpenClaim := { program := "ytefaoeaohhdhkaa", sum := "0d2fdb807e3c6863cbfbfc6a28c062af0c1da953d329561eac2480ac1bd5c2b3", func := "epact/epactlaw05.FormTurns", spec := "formTurns", unfollowed := true, recurses := true, apart := false, narrowed := true }
def FormTurnsUptoSaid : Prop := formTurnsUptoRow.holds Try.pinned (OpenSpec.upto formTurnsSpec)

/-- 'epactlaw05.FormOwn', WHERE WHAT IT READS IS OF BULK AT MOST 1048576: true; the input reads as it did. -/
def formOwnUptoRow : OpenClaim := { program := "ytefaoeaohhdhkaa", sum := "0d2fdb807e3c6863cbfbfc6a28c062af0c1da953d329561eac2480ac1bd5c2b3", func := "epact/epactlaw05.FormOwn", spec := "formOwn", unfollowed := true, recurses := true, apart := false, narrowed := true }
def FormOwnUptoSaid : Prop := formOwnUptoRow.holds Try.pinned (OpenSpec.upto formOwnSpec)

/-- 'epactlaw06.CanonTells', WHERE WHAT IT READS IS OF BULK AT MOST 1048576: true; the input reads as it did. -/
def canonTellsUptoRow : OpenClaim := { program := "ytefaoeaohhdhkaa", sum := "0d2fdb807e3c6863cbfbfc6a28c062af0c1da953d329561eac2480ac1bd5c2b3", func := "epact/epactlaw06.CanonTells", spec := "canonTells", unfollowed := true, recurses := true, apart := false, narrowed := true }
def CanonTellsUptoSaid : Prop := canonTellsUptoRow.holds Try.pinned (OpenSpec.upto canonTellsSpec)

/-- 'epactlaw06.CanonSame', WHERE WHAT IT READS IS OF BULK AT MOST 1048576: true; the input reads as it did. -/
def canonSameUptoRow : OpenClaim := { program := "ytefaoeaohhdhkaa", sum := "0d2fdb807e3c6863cbfbfc6a28c062af0c1da953d329561eac2480ac1bd5c2b3", func := "epact/epactlaw06.CanonSame", spec := "canonSame", unfollowed := true, recurses := true, apart := false, narrowed := true }
def CanonSameUptoSaid : Prop := canonSameUptoRow.holds Try.pinned (OpenSpec.upto canonSameSpec)

/-- 'epactlaw06.CanonKeeps', WHERE WHAT IT READS IS OF BULK AT MOST 1048576: true; the input reads as it did. -/
def canonKeepsUptoRow : OpenClaim := { program := "ytefaoeaohhdhkaa", sum := "0d2fdb807e3c6863cbfbfc6a28c062af0c1da953d329561eac2480ac1bd5c2b3", func := "epact/epactlaw06.CanonKeeps", spec := "canonKeeps", unfollowed := true, recurses := true, apart := false, narrowed := true }
def CanonKeepsUptoSaid : Prop := canonKeepsUptoRow.holds Try.pinned (OpenSpec.upto canonKeepsSpec)

/-- 'epactlaw06.CanonTurns', WHERE WHAT IT READS IS OF BULK AT MOST 1048576: true; the input reads as it did. -/
def canonTurnsUptoRow : OpenClaim := { program := "ytefaoeaohhdhkaa", sum := "0d2fdb807e3c6863cbfbfc6a28c062af0c1da953d329561eac2480ac1bd5c2b3", func := "epact/epactlaw06.CanonTurns", spec := "canonTurns", unfollowed := true, recurses := true, apart := false, narrowed := true }
def CanonTurnsUptoSaid : Prop := canonTurnsUptoRow.holds Try.pinned (OpenSpec.upto canonTurnsSpec)

/-- 'epactlaw06.CanonUnlike', WHERE WHAT IT READS IS OF BULK AT MOST 1048576: true; the input reads as it did. -/
def canonUnlikeUptoRow : OpenClaim := { program := "ytefaoeaohhdhkaa", sum := "0d2fdb807e3c6863cbfbfc6a28c062af0c1da953d329561eac2480ac1bd5c2b3", func := "epact/epactlaw06.CanonUnlike", spec := "canonUnlike", unfollowed := true, recurses := true, apart := false, narrowed := true }
def CanonUnlikeUptoSaid : Prop := canonUnlikeUptoRow.holds Try.pinned (OpenSpec.upto canonUnlikeSpec)

end Rows
end Go.Proofs.Ytefaoeaohhdhkaa
