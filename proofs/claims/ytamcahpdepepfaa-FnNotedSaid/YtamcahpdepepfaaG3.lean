
/-
  The laws' helpers, at kinds that hold slices, and at slices of them.
-/
import Derived.Test.YtamcahpdepepfaaP9
namespace Go.Proofs.Ytamcahpdepepfaa
open Go Go.RowKit
set_option linter.unusedVariables false
set_option linter.unusedSimpArgs false
set_option maxRecDepth 4000

/-- its parts are own arrays -/
abbrev agPlaceG (x : GPlace) (k1 : Nat) : SV := .ag [.g k1]
theorem mPlace_eq (x : GPlace) : mPlace x = 0+(x.machines.length) := by unfold mPlace; omega
/-- its parts are own arrays -/
abbrev agRecordG (x : GRecord) (k1 : Nat) : SV := .ag [.v (.int .i64 x.kind), .v (.int .i64 x.tx), .v (.int .i64 x.region), .g k1]
theorem mRecord_eq (x : GRecord) : mRecord x = 0+1+1+1+(5 * x.sets.length) := by unfold mRecord; omega
/-- its parts are own arrays -/
abbrev agCopyG (x : GCopy) (k1 : Nat) : SV := .ag [.v (.int .i64 x.region), .g k1]
theorem mCopy_eq (x : GCopy) : mCopy x = 0+1+(2 * x.cells.length) := by unfold mCopy; omega
/-- its parts are own arrays -/
abbrev agMachineG (x : GMachine) (k1 k2 k3 : Nat) : SV := .ag [.v (.bool x.alive), .g k1, .g k2, .g k3]
theorem mMachine_eq (x : GMachine) : mMachine x = 0+1+((sumW mCopy x.copies))+((sumW mRecord x.log))+(x.cleared.length) := by unfold mMachine; omega
/-- its parts are own arrays -/
abbrev agTxG (x : GTx) (k1 k2 : Nat) : SV := .ag [.v (.int .i64 x.id), .v (.int .i64 x.home), .v (.int .i64 x.phase), .v (.int .i64 x.done), .g k1, .g k2, .v (.int .i64 x.stamp)]
theorem mTx_eq (x : GTx) : mTx x = 0+1+1+1+1+(5 * x.reads.length)+(5 * x.sets.length)+1 := by unfold mTx; omega
/-- its parts are own arrays -/
abbrev agClusterG (x : GCluster) (k1 k2 k3 : Nat) : SV := .ag [.v (.int .i64 x.config), .v (.int .i64 x.clock), .g k1, .g k2, .g k3, .v (.bool x.lost)]
end Go.Proofs.Ytamcahpdepepfaa
