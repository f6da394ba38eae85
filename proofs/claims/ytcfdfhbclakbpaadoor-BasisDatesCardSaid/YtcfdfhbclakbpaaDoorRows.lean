/-
  NARROWER THAN 'FOR EVERY INPUT', by the rows' own cells (each row's printed sentence says how): BasisTells: laid · BasisNone: laid · BasisDates: laid · BasisRight: laid.
  DERIVED. THE GIVEN ROWS OF THIS SEAT. 4 by the template 'for every input the law returns true; each argument reads behind the call as it read before'; 0 by the template 'total and deterministic' (their statements: YtcfdfhbclakbpaaDoorTotals.lean).
  GIVEN WITH THE SEED: the statements are not yours to turn. If you find one false, say at which input.
  Laid BY PROGRAM, IN A SANDBOX (cutbox-rows.mjs): the forced cells as the released guide's own fill.sh prints them over the translation 28682c55c9b4137f… (all of the seat's roots in one cut). By AI agents, Wed Nov 11 2026. No macro, syntax, notation, axiom, sorry.
-/
import Derived.Test.YtcfdfhbclakbpaaDoorChecked
import GoSem.Claim
import GoSem.ClaimJoined
import GoSem.ClaimMapViews
import Derived.JoinedTies
import Derived.KernelRfl
namespace Go.Proofs.YtcfdfhbclakbpaaDoor
/- THE CELL 'sum', in the pinned program and in every row, IS THE sha256 OF THE DUMP (.gsa) THAT YtcfdfhbclakbpaaDoorProg.lean LOADS. Nothing in Lean hashes anything: it is a label: what it is worth is what the hold of that sum in a sandbox is worth. -/
noncomputable def Tryd.pinned : Pinned := { name := "ytcfdfhbclakbpaadoor", sum := "28682c55c9b4137fb5fd22c4baca42d212287bf13f005f93083a17a56cf2d8cd", checked := Tryd.checked }
namespace Rows
def none {H : Type} : Left H := { results := [], args := [] }

/- WHAT THE LISTED PACKAGE-LEVEL VARIABLES READ AS WHEN THE CALL BEGINS. Each datum BY PROGRAM (the guide's laid-datum.mjs) off the statement by which the dump's own 'gosem.cut.vars' lays the variable. In a bare row this is a premise. The card (YtcfdfhbclakbpaaDoorCards.lean) ties it to the program's text. -/
def laid_epact_civil_ahead {H : Type} : DataW H := .agg [.lit (.int .i64 0), .lit (.int .i64 31), .lit (.int .i64 59), .lit (.int .i64 90), .lit (.int .i64 120), .lit (.int .i64 151), .lit (.int .i64 181), .lit (.int .i64 212), .lit (.int .i64 243), .lit (.int .i64 273), .lit (.int .i64 304), .lit (.int .i64 334), .lit (.int .i64 365)]

/-- 'epactlaw08.BasisTells': WHATEVER THE INPUT: true; the input reads as it did. -/
def basisTellsSpec : ChangeSpec := { name := "basisTells", fn := fun _ => fun
  | [d] => { results := [.lit (.bool true)], args := [d] }
  | _ => none }
def basisTellsRow : OpenClaim := { program := "ytcfdfhbclakbpaadoor", sum := "28682c55c9b4137fb5fd22c4baca42d212287bf13f005f93083a17a56cf2d8cd", func := "epact/epactlaw08.BasisTells", spec := "basisTells", inPlace := ["sync/atomic.AddInt64", "sync/atomic.LoadUint32", "(*internal/sync.Mutex).Lock", "internal/race.Disable", "sync/atomic.CompareAndSwapInt32", "internal/race.Enable", "internal/race.Acquire", "(*internal/sync.Mutex).lockSlow", "internal/sync.runtime_canSpin", "internal/sync.runtime_doSpin", "internal/sync.throw", "internal/sync.runtime_nanotime", "internal/sync.runtime_SemacquireMutex", "sync/atomic.AddInt32", "(*internal/sync.Mutex).Unlock", "internal/race.ReleaseMerge", "(*internal/sync.Mutex).unlockSlow", "internal/sync.fatal", "internal/sync.runtime_Semrelease", "sync/atomic.StoreUint32", "sync/atomic.LoadInt64"], unfollowed := true, recurses := true, named := ["epact/civil.ahead"], apart := false, laid := [("epact/civil.ahead", laid_epact_civil_ahead)] }
def BasisTellsSaid : Prop := basisTellsRow.holds Tryd.pinned (OpenSpec.ofChange basisTellsSpec)

/-- ITS FALSE NEIGHBOUR: 'it returns false'. Refute it at one input. -/
def basisTellsWrong : ChangeSpec := { name := "basisTells", fn := fun _ => fun
  | [d] => { results := [.lit (.bool false)], args := [d] }
  | _ => none }
def BasisTellsWrongFalsely : Prop := basisTellsRow.holds Tryd.pinned (OpenSpec.ofChange basisTellsWrong)

/-- 'epactlaw08.BasisNone': WHATEVER THE INPUT: true; the input reads as it did. -/
def basisNoneSpec : ChangeSpec := { name := "basisNone", fn := fun _ => fun
  | [d] => { results := [.lit (.bool true)], args := [d] }
  | _ => none }
def basisNoneRow : OpenClaim := { program := "ytcfdfhbclakbpaadoor", sum := "28682c55c9b4137fb5fd22c4baca42d212287bf13f005f93083a17a56cf2d8cd", func := "epact/epactlaw08.BasisNone", spec := "basisNone", inPlace := ["sync/atomic.AddInt64", "sync/atomic.LoadUint32", "(*internal/sync.Mutex).Lock", "internal/race.Disable", "sync/atomic.CompareAndSwapInt32", "internal/race.Enable", "internal/race.Acquire", "(*internal/sync.Mutex).lockSlow", "internal/sync.runtime_canSpin", "internal/sync.runtime_doSpin", "internal/sync.throw", "internal/sync.runtime_nanotime", "internal/sync.runtime_SemacquireMutex", "sync/atomic.AddInt32", "(*internal/sync.Mutex).Unlock", "internal/race.ReleaseMerge", "(*internal/sync.Mutex).unlockSlow", "internal/sync.fatal", "internal/sync.runtime_Semrelease", "sync/atomic.StoreUint32", "sync/atomic.LoadInt64"], unfollowed := true, recurses := true, named := ["epact/civil.ahead"], apart := false, laid := [("epact/civil.ahead", laid_epact_civil_ahead)] }
def BasisNoneSaid : Prop := basisNoneRow.holds Tryd.pinned (OpenSpec.ofChange basisNoneSpec)

/-- ITS FALSE NEIGHBOUR: 'it returns false'. Refute it at one input. -/
def basisNoneWrong : ChangeSpec := { name := "basisNone", fn := fun _ => fun
  | [d] => { results := [.lit (.bool false)], args := [d] }
  | _ => none }
def BasisNoneWrongFalsely : Prop := basisNoneRow.holds Tryd.pinned (OpenSpec.ofChange basisNoneWrong)

/-- 'epactlaw08.BasisDates': WHATEVER THE INPUT: true; the input reads as it did. -/
def basisDatesSpec : ChangeSpec := { name := "basisDates", fn := fun _ => fun
  | [d1, d2, d3] => { results := [.lit (.bool true)], args := [d1, d2, d3] }
  | _ => none }
def basisDatesRow : OpenClaim := { program := "ytcfdfhbclakbpaadoor", sum := "28682c55c9b4137fb5fd22c4baca42d212287bf13f005f93083a17a56cf2d8cd", func := "epact/epactlaw08.BasisDates", spec := "basisDates", inPlace := ["sync/atomic.AddInt64", "sync/atomic.LoadUint32", "(*internal/sync.Mutex).Lock", "internal/race.Disable", "sync/atomic.CompareAndSwapInt32", "internal/race.Enable", "internal/race.Acquire", "(*internal/sync.Mutex).lockSlow", "internal/sync.runtime_canSpin", "internal/sync.runtime_doSpin", "internal/sync.throw", "internal/sync.runtime_nanotime", "internal/sync.runtime_SemacquireMutex", "sync/atomic.AddInt32", "(*internal/sync.Mutex).Unlock", "internal/race.ReleaseMerge", "(*internal/sync.Mutex).unlockSlow", "internal/sync.fatal", "internal/sync.runtime_Semrelease", "sync/atomic.StoreUint32", "sync/atomic.LoadInt64"], unfollowed := true, recurses := true, named := ["epact/civil.ahead"], apart := false, laid := [("epact/civil.ahead", laid_epact_civil_ahead)] }
def BasisDatesSaid : Prop := basisDatesRow.holds Tryd.pinned (OpenSpec.ofChange basisDatesSpec)

/-- ITS FALSE NEIGHBOUR: 'it returns false'. Refute it at one input. -/
def basisDatesWrong : ChangeSpec := { name := "basisDates", fn := fun _ => fun
  | [d1, d2, d3] => { results := [.lit (.bool false)], args := [d1, d2, d3] }
  | _ => none }
def BasisDatesWrongFalsely : Prop := basisDatesRow.holds Tryd.pinned (OpenSpec.ofChange basisDatesWrong)

/-- 'epactlaw08.BasisRight': WHATEVER THE INPUT: true; the input reads as it did. -/
def basisRightSpec : ChangeSpec := { name := "basisRight", fn := fun _ => fun
  | [d1, d2] => { results := [.lit (.bool true)], args := [d1, d2] }
  | _ => none }
def basisRightRow : OpenClaim := { program := "ytcfdfhbclakbpaadoor", sum := "28682c55c9b4137fb5fd22c4baca42d212287bf13f005f93083a17a56cf2d8cd", func := "epact/epactlaw08.BasisRight", spec := "basisRight", inPlace := ["sync/atomic.AddInt64", "sync/atomic.LoadUint32", "(*internal/sync.Mutex).Lock", "internal/race.Disable", "sync/atomic.CompareAndSwapInt32", "internal/race.Enable", "internal/race.Acquire", "(*internal/sync.Mutex).lockSlow", "internal/sync.runtime_canSpin", "internal/sync.runtime_doSpin", "internal/sync.throw", "internal/sync.runtime_nanotime", "internal/sync.runtime_SemacquireMutex", "sync/atomic.AddInt32", "(*internal/sync.Mutex).Unlock", "internal/race.ReleaseMerge", "(*internal/sync.Mutex).unlockSlow", "internal/sync.fatal", "internal/sync.runtime_Semrelease", "sync/atomic.StoreUint32", "sync/atomic.LoadInt64"], unfollowed := true, recurses := true, named := ["epact/civil.ahead"], apart := false, laid := [("epact/civil.ahead", laid_epact_civil_ahead)] }
def BasisRightSaid : Prop := basisRightRow.holds Tryd.pinned (OpenSpec.ofChange basisRightSpec)

/-- ITS FALSE NEIGHBOUR: 'it returns false'. Refute it at one input. -/
def basisRightWrong : ChangeSpec := { name := "basisRight", fn := fun _ => fun
  | [d1, d2] => { results := [.lit (.bool false)], args := [d1, d2] }
  | _ => none }
def BasisRightWrongFalsely : Prop := basisRightRow.holds Tryd.pinned (OpenSpec.ofChange basisRightWrong)

/- THE SECOND FORM. 'bulk': how many values and letters a reading holds, each counted each time it is reached (what is shared counts as often as it is met; a slice's spare places count too). A statement '..UptoSaid' is the law's where the arguments, and the package variables that the reading takes, are together of bulk at most 1048576: NARROWER than '..Said'. Prove '..Said' where nothing that the law and all that it calls make is longer than what came in: it says more and counts as full. Else prove '..UptoSaid'. A law counts once. -/
mutual
def uptoBulk {H : Type} : DataW H → Nat
  | .lit (.string bytes) => bytes.length + 1
  | .lit _ => 1
  | .nil => 1
  | .ptr d => uptoBulk d + 1
  | .slice elems spare => uptoBulkAll elems + uptoBulkAll spare + 1
  | .agg parts => uptoBulkAll parts + 1
  | .iface _ d => uptoBulk d + 1
  | .map entries => uptoBulkEntries entries + 1
  | .held _ => 1
def uptoBulkAll {H : Type} : List (DataW H) → Nat
  | [] => 0
  | d :: r => uptoBulk d + uptoBulkAll r
def uptoBulkEntries {H : Type} : List (Lit × DataW H) → Nat
  | [] => 0
  | x :: r => uptoBulkEntry x + uptoBulkEntries r
def uptoBulkEntry {H : Type} : Lit × DataW H → Nat
  | (.string bytes, d) => bytes.length + uptoBulk d + 1
  | (_, d) => uptoBulk d + 1
 end
def uptoSmall : (H : Type) → List (DataW H) → Bool := fun _ ds => decide (uptoBulkAll ds ≤ 1048576)
def OpenSpec.upto (s : _root_.Go.ChangeSpec) : _root_.Go.OpenSpec := { _root_.Go.OpenSpec.ofChange s with cond := some uptoSmall }

/-- 'epactlaw08.BasisTells', WHERE WHAT IT READS IS OF BULK AT MOST 1048576: true; the input reads as it did. -/
def basisTellsUptoRow : OpenClaim := { program := "ytcfdfhbclakbpaadoor", sum := "28682c55c9b4137fb5fd22c4baca42d212287bf13f005f93083a17a56cf2d8cd", func := "epact/epactlaw08.BasisTells", spec := "basisTells", inPlace := ["sync/atomic.AddInt64", "sync/atomic.LoadUint32", "(*internal/sync.Mutex).Lock", "internal/race.Disable", "sync/atomic.CompareAndSwapInt32", "internal/race.Enable", "internal/race.Acquire", "(*internal/sync.Mutex).lockSlow", "internal/sync.runtime_canSpin", "internal/sync.runtime_doSpin", "internal/sync.throw", "internal/sync.runtime_nanotime", "internal/sync.runtime_SemacquireMutex", "sync/atomic.AddInt32", "(*internal/sync.Mutex).Unlock", "internal/race.ReleaseMerge", "(*internal/sync.Mutex).unlockSlow", "internal/sync.fatal", "internal/sync.runtime_Semrelease", "sync/atomic.StoreUint32", "sync/atomic.LoadInt64"], unfollowed := true, recurses := true, named := ["epact/civil.ahead"], apart := false, laid := [("epact/civil.ahead", laid_epact_civil_ahead)], narrowed := true }
def BasisTellsUptoSaid : Prop := basisTellsUptoRow.holds Tryd.pinned (OpenSpec.upto basisTellsSpec)

/-- 'epactlaw08.BasisNone', WHERE WHAT IT READS IS OF BULK AT MOST 1048576: true; the input reads as it did. -/
def basisNoneUptoRow : OpenClaim := { program := "ytcfdfhbclakbpaadoor", sum := "28682c55c9b4137fb5fd22c4baca42d212287bf13f005f93083a17a56cf2d8cd", func := "epact/epactlaw08.BasisNone", spec := "basisNone", inPlace := ["sync/atomic.AddInt64", "sync/atomic.LoadUint32", "(*internal/sync.Mutex).Lock", "internal/race.Disable", "sync/atomic.CompareAndSwapInt32", "internal/race.Enable", "internal/race.Acquire", "(*internal/sync.Mutex).lockSlow", "internal/sync.runtime_canSpin", "internal/sync.runtime_doSpin", "internal/sync.throw", "internal/sync.runtime_nanotime", "internal/sync.runtime_SemacquireMutex", "sync/atomic.AddInt32", "(*internal/sync.Mutex).Unlock", "internal/race.ReleaseMerge", "(*internal/sync.Mutex).unlockSlow", "internal/sync.fatal", "internal/sync.runtime_Semrelease", "sync/atomic.StoreUint32", "sync/atomic.LoadInt64"], unfollowed := true, recurses := true, named := ["epact/civil.ahead"], apart := false, laid := [("epact/civil.ahead", laid_epact_civil_ahead)], narrowed := true }
def BasisNoneUptoSaid : Prop := basisNoneUptoRow.holds Tryd.pinned (OpenSpec.upto basisNoneSpec)

/-- 'epactlaw08.BasisDates', WHERE WHAT IT READS IS OF BULK AT MOST 1048576: true; the input reads as it did. -/
def basisDatesUptoRow : OpenClaim := { program := "ytcfdfhbclakbpaadoor", sum := "28682c55c9b4137fb5fd22c4baca42d212287bf13f005f93083a17a56cf2d8cd", func := "epact/epactlaw08.BasisDates", spec := "basisDates", inPlace := ["sync/atomic.AddInt64", "sync/atomic.LoadUint32", "(*internal/sync.Mutex).Lock", "internal/race.Disable", "sync/atomic.CompareAndSwapInt32", "internal/race.Enable", "internal/race.Acquire", "(*internal/sync.Mutex).lockSlow", "internal/sync.runtime_canSpin", "internal/sync.runtime_doSpin", "internal/sync.throw", "internal/sync.runtime_nanotime", "internal/sync.runtime_SemacquireMutex", "sync/atomic.AddInt32", "(*internal/sync.Mutex).Unlock", "internal/race.ReleaseMerge", "(*internal/sync.Mutex).unlockSlow", "internal/sync.fatal", "internal/sync.runtime_Semrelease", "sync/atomic.StoreUint32", "sync/atomic.LoadInt64"], unfollowed := true, recurses := true, named := ["epact/civil.ahead"], apart := false, laid := [("epact/civil.ahead", laid_epact_civil_ahead)], narrowed := true }
def BasisDatesUptoSaid : Prop := basisDatesUptoRow.holds Tryd.pinned (OpenSpec.upto basisDatesSpec)

/-- 'epactlaw08.BasisRight', WHERE WHAT IT READS IS OF BULK AT MOST 1048576: true; the input reads as it did. -/
def basisRightUptoRow : OpenClaim := { program := "ytcfdfhbclakbpaadoor", sum := "28682c55c9b4137fb5fd22c4baca42d212287bf13f005f93083a17a56cf2d8cd", func := "epact/epactlaw08.BasisRight", spec := "basisRight", inPlace := ["sync/atomic.AddInt64", "sync/atomic.LoadUint32", "(*internal/sync.Mutex).Lock", "internal/race.Disable", "sync/atomic.CompareAndSwapInt32", "internal/race.Enable", "internal/race.Acquire", "(*internal/sync.Mutex).lockSlow", "internal/sync.runtime_canSpin", "internal/sync.runtime_doSpin", "internal/sync.throw", "internal/sync.runtime_nanotime", "internal/sync.runtime_SemacquireMutex", "sync/atomic.AddInt32", "(*internal/sync.Mutex).Unlock", "internal/race.ReleaseMerge", "(*internal/sync.Mutex).unlockSlow", "internal/sync.fatal", "internal/sync.runtime_Semrelease", "sync/atomic.StoreUint32", "sync/atomic.LoadInt64"], unfollowed := true, recurses := true, named := ["epact/civil.ahead"], apart := false, laid := [("epact/civil.ahead", laid_epact_civil_ahead)], narrowed := true }
def BasisRightUptoSaid : Prop := basisRightUptoRow.holds Tryd.pinned (OpenSpec.upto basisRightSpec)

end Rows
end Go.Proofs.YtcfdfhbclakbpaaDoor
