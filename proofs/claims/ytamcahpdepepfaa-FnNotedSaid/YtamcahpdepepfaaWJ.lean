
/-
  Joins: a piece of code, told of by one family of frames and memories behind it, whatever its branches.
-/
import Derived.Test.YtamcahpdepepfaaWI
namespace Go.Proofs.Ytamcahpdepepfaa
open Go Go.RowKit
set_option linter.unusedVariables false
set_option linter.unusedSimpArgs false

section
variable {E : Env} {mu : Mu} {fr : Fr} {R : Exit → Act → World → Prop} {K : List KF}
theorem T_joinA {ι : Type} {c : Code} (u : ι → Fr) (um : ι → Mu) (φ : ι → Prop) (kc kd : List Nat) {fk : Fr} {mk : Mu} (hkf : keepF (modC c []) kc kd fr [] = some fk) (hkm : mdropKs kc mu = some mk)
    (body : T E R c fr mu (.loop (Inv E (fun y => appF (u y) fk) (fun y => appM (um y) mk) φ (fun _ => 0) 1) :: K)) (h : ∀ y, φ y → X E R (nxN K) (appF (u y) fk) (appM (um y) mk)) : T E R c fr mu K := fun B a w H f me => by
  refine wp_mono (body B a w H f me) ?_
  intro e a' w' q
  cases e with
  | normal =>
    obtain ⟨z, z1, z2, B', H', z3, z4⟩ := q
    exact nxN_ok (h z z1 B' a' w' H' z3 z4)
  | exit id => exact q
  | goto l => exact q
  | ret => exact q
  | panic ch => exact q
  | outgrown => exact q
end
end Go.Proofs.Ytamcahpdepepfaa
