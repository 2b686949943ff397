
/-
  The laws of Upper, Cells.
-/
import Derived.Test.YtpfcfepbhdkpdaaGreatX4
import Derived.Test.YtpfcfepbhdkpdaaGreatP15
namespace Go.Proofs.YtpfcfepbhdkpdaaGreat
open Go Go.RowKit
set_option linter.unusedVariables false
set_option linter.unusedSimpArgs false
set_option maxRecDepth 4000

theorem marks_le {x : GCluster} (h : wCluster x ≤ 1048576) : (1 : Int) + (sumW mPlace x.places : Nat) + (sumW mMachine x.machines : Nat) + (sumW mTx x.txs : Nat) ≤ 1000000000000 := by
  have := mCluster_le x
  unfold mCluster at this
  omega
theorem marks_of {x : GCluster} (e : ¬ szI 1048576 (wCluster x) < 0) : (1 : Int) + (sumW mPlace x.places : Nat) + (sumW mMachine x.machines : Nat) + (sumW mTx x.txs : Nat) ≤ 1000000000000 := marks_le (by have := (szI_in e).2.2.2; omega)
end Go.Proofs.YtpfcfepbhdkpdaaGreat
