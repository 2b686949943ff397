
/-
  The laws' helpers, at plain kinds and slices of them.
  The laws' helpers, at transactions.
-/
import Derived.Test.YtamcahpdepepfaaPA
namespace Go.Proofs.Ytamcahpdepepfaa
open Go Go.RowKit
set_option linter.unusedVariables false
set_option linter.unusedSimpArgs false

section
set_option maxRecDepth 4000

def mkSet (k : Int) : GSet := ⟨k, k + 1, k + 1 + 1, (k + 1 + 1 + 1).tmod 3 == 0, k + 1 + 1 + 1 + 1⟩
def mkNote (k : Int) : GNote := ⟨k, k + 1, k + 1 + 1, k + 1 + 1 + 1, (k + 1 + 1 + 1 + 1).tmod 3 == 0⟩
def mkCell (k : Int) : GCell := ⟨k, k + 1⟩
def mkOp (k : Int) : GOp := ⟨k, k + 1, k + 1 + 1, k + 1 + 1 + 1, k + 1 + 1 + 1 + 1⟩
end

section
set_option maxRecDepth 4000

def szTxI (t : GTx) (l : Int) : Int := if szI l t.reads.length < 0 then -1 else if szI (szI l t.reads.length) t.sets.length < 0 then -1 else szI (szI l t.reads.length) t.sets.length
theorem szTxI_pos {t : GTx} {l : Int} (h : ¬ szTxI t l < 0) : (t.reads.length : Int) ≤ l ∧ (t.sets.length : Int) ≤ l := by
  unfold szTxI szI at h
  split at h
  · omega
  · split at h <;> omega
/-- a transaction whose parts are own arrays -/
abbrev agTx (t : GTx) (k1 k2 : Nat) : SV := .ag [.v (.int .i64 t.id), .v (.int .i64 t.home), .v (.int .i64 t.phase), .v (.int .i64 t.done), .g k1, .g k2, .v (.int .i64 t.stamp)]
end
end Go.Proofs.Ytamcahpdepepfaa
