
/-
  What a law is handed, at kinds that hold slices.
-/
import Derived.Test.YtiegllklalplnaaP9
import Derived.Test.YtiegllklalplnaaO
namespace Go.Proofs.Ytiegllklalplnaa
open Go Go.RowKit
set_option linter.unusedVariables false
set_option linter.unusedSimpArgs false

theorem opens_SetS : Opens Try.prog 23 (fun xs : List GSet => [dL 5 cSet GSet.z xs]) := opens_slice 5 GSet.z Try.underlying23 opens_Set (by kernel_rfl) (Nat.lt_of_sub_eq_succ rfl)
theorem opens_NoteS : Opens Try.prog 22 (fun xs : List GNote => [dL 5 cNote GNote.z xs]) := opens_slice 5 GNote.z Try.underlying22 opens_Note (by kernel_rfl) (Nat.lt_of_sub_eq_succ rfl)
theorem opens_Int64S : Opens Try.prog 75 (fun xs : List Int => [dL 1 cInt 0 xs]) := opens_slice 1 0 Try.underlying75 opens_Int (by kernel_rfl) (Nat.lt_of_sub_eq_succ rfl)
end Go.Proofs.Ytiegllklalplnaa
