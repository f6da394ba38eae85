/-
  DERIVED. GIVEN WITH THE SEED: THE CARDS: each row of YtcfdfhbclakbpaaDoorRows.lean that lists a variable, with what it lists TIED to the program's text (the seventh form; the later family's looks); each row that meets fmt, with fmt's text TOLD by the authors' own Lean function (tested against real Go, not proved from fmt's source: count such statements apart). THE CARD IS WHAT COUNTS. Prove the row's statement (the work); the ties are given (YtcfdfhbclakbpaaDoorTie.lean); close each card by the builder's one call (the guide's Derived/Test/ToyasCard.lean, 'card_holds'). Laid BY PROGRAM, IN A SANDBOX (cutbox-door.mjs). By AI agents, Wed Nov 11 2026. No macro, syntax, notation, axiom, sorry.
-/
import Derived.Test.YtcfdfhbclakbpaaDoorRows
import GoSem.ClaimSeven
namespace Go.Proofs.YtcfdfhbclakbpaaDoor
namespace Rows

/-- THE TIED CARD OF 'epactlaw08.BasisTells'. -/
def basisTellsCard : Claim7 := { stood := { row := basisTellsRow, standIns := [], harness := (true, "7611a21b35205973d2f6461c1b9db925ab4b4dc65ec3b82b3c740a52de5084b7"), looks := false }, kinds := [], alts := [], laidByText := true, laidKinds := [.data], laidTests := true, laidLooks := .later }
def BasisTellsCardSaid : Prop := Claim7.holds Tryd.pinned (.plain (OpenSpec.ofChange basisTellsSpec)) basisTellsCard

/-- THE TIED CARD OF 'epactlaw08.BasisNone'. -/
def basisNoneCard : Claim7 := { stood := { row := basisNoneRow, standIns := [], harness := (true, "7611a21b35205973d2f6461c1b9db925ab4b4dc65ec3b82b3c740a52de5084b7"), looks := false }, kinds := [], alts := [], laidByText := true, laidKinds := [.data], laidTests := true, laidLooks := .later }
def BasisNoneCardSaid : Prop := Claim7.holds Tryd.pinned (.plain (OpenSpec.ofChange basisNoneSpec)) basisNoneCard

/-- THE TIED CARD OF 'epactlaw08.BasisDates'. -/
def basisDatesCard : Claim7 := { stood := { row := basisDatesRow, standIns := [], harness := (true, "7611a21b35205973d2f6461c1b9db925ab4b4dc65ec3b82b3c740a52de5084b7"), looks := false }, kinds := [], alts := [], laidByText := true, laidKinds := [.data], laidTests := true, laidLooks := .later }
def BasisDatesCardSaid : Prop := Claim7.holds Tryd.pinned (.plain (OpenSpec.ofChange basisDatesSpec)) basisDatesCard

/-- THE TIED CARD OF 'epactlaw08.BasisRight'. -/
def basisRightCard : Claim7 := { stood := { row := basisRightRow, standIns := [], harness := (true, "7611a21b35205973d2f6461c1b9db925ab4b4dc65ec3b82b3c740a52de5084b7"), looks := false }, kinds := [], alts := [], laidByText := true, laidKinds := [.data], laidTests := true, laidLooks := .later }
def BasisRightCardSaid : Prop := Claim7.holds Tryd.pinned (.plain (OpenSpec.ofChange basisRightSpec)) basisRightCard

/-- THE SECOND FORM's CARD OF 'epactlaw08.BasisTells'. -/
def basisTellsUptoCard : Claim7 := { stood := { row := basisTellsUptoRow, standIns := [], harness := (true, "7611a21b35205973d2f6461c1b9db925ab4b4dc65ec3b82b3c740a52de5084b7"), looks := false }, kinds := [], alts := [], laidByText := true, laidKinds := [.data], laidTests := true, laidLooks := .later }
def BasisTellsUptoCardSaid : Prop := Claim7.holds Tryd.pinned (.plain (OpenSpec.upto basisTellsSpec)) basisTellsUptoCard

/-- THE SECOND FORM's CARD OF 'epactlaw08.BasisNone'. -/
def basisNoneUptoCard : Claim7 := { stood := { row := basisNoneUptoRow, standIns := [], harness := (true, "7611a21b35205973d2f6461c1b9db925ab4b4dc65ec3b82b3c740a52de5084b7"), looks := false }, kinds := [], alts := [], laidByText := true, laidKinds := [.data], laidTests := true, laidLooks := .later }
def BasisNoneUptoCardSaid : Prop := Claim7.holds Tryd.pinned (.plain (OpenSpec.upto basisNoneSpec)) basisNoneUptoCard

/-- THE SECOND FORM's CARD OF 'epactlaw08.BasisDates'. -/
def basisDatesUptoCard : Claim7 := { stood := { row := basisDatesUptoRow, standIns := [], harness := (true, "7611a21b35205973d2f6461c1b9db925ab4b4dc65ec3b82b3c740a52de5084b7"), looks := false }, kinds := [], alts := [], laidByText := true, laidKinds := [.data], laidTests := true, laidLooks := .later }
def BasisDatesUptoCardSaid : Prop := Claim7.holds Tryd.pinned (.plain (OpenSpec.upto basisDatesSpec)) basisDatesUptoCard

/-- THE SECOND FORM's CARD OF 'epactlaw08.BasisRight'. -/
def basisRightUptoCard : Claim7 := { stood := { row := basisRightUptoRow, standIns := [], harness := (true, "7611a21b35205973d2f6461c1b9db925ab4b4dc65ec3b82b3c740a52de5084b7"), looks := false }, kinds := [], alts := [], laidByText := true, laidKinds := [.data], laidTests := true, laidLooks := .later }
def BasisRightUptoCardSaid : Prop := Claim7.holds Tryd.pinned (.plain (OpenSpec.upto basisRightSpec)) basisRightUptoCard
end Rows
end Go.Proofs.YtcfdfhbclakbpaaDoor
