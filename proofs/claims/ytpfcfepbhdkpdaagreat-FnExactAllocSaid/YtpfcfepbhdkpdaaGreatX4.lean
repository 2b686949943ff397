
/-
  The law of ClusterOk.
-/
import Derived.Test.YtpfcfepbhdkpdaaGreatP11
import Derived.Test.YtpfcfepbhdkpdaaGreatG3
namespace Go.Proofs.YtpfcfepbhdkpdaaGreat
open Go Go.RowKit
set_option linter.unusedVariables false
set_option linter.unusedSimpArgs false
set_option maxRecDepth 4000

theorem small_of {x : GCluster} (e : ¬ szI 1048576 (wCluster x) < 0) : D.bds bigN (cCluster x) := bd_Cluster x (by have := (szI_in e).2.2.2; unfold bigN; omega)
end Go.Proofs.YtpfcfepbhdkpdaaGreat
