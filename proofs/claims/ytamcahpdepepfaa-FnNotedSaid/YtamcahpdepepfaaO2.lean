
/-
  What a law is handed, at kinds that hold slices.
-/
import Derived.Test.YtamcahpdepepfaaP9
import Derived.Test.YtamcahpdepepfaaO
namespace Go.Proofs.Ytamcahpdepepfaa
open Go Go.RowKit
set_option linter.unusedVariables false
set_option linter.unusedSimpArgs false

theorem opens_Int64S : Opens Try.prog 29 (fun xs : List Int => [dL 1 cInt 0 xs]) := opens_slice 1 0 Try.underlying29 opens_Int (by kernel_rfl) (Nat.lt_of_sub_eq_succ rfl)
end Go.Proofs.Ytamcahpdepepfaa
