
/-
  What a law is handed, where it is bytes.
-/
import Derived.Test.YtamcahpdepepfaaO2
namespace Go.Proofs.Ytamcahpdepepfaa
open Go Go.RowKit
set_option linter.unusedVariables false
set_option linter.unusedSimpArgs false

abbrev U8 := {x : Int // 0 ≤ x ∧ x ≤ 255}
def U8z : U8 := ⟨0, by decide⟩
def cU8 (x : U8) : List D := [.v (.int .u8 x.1)]
theorem opens_u8 {P : Program} {t : TypeId} (h : P.underlying t = some (.int .u8)) : Opens P t cU8 := fun enc W fuel cs x hx _ => by
  have : ∃ y : Int, cs = [.int .u8 y] ∧ 0 ≤ y ∧ y ≤ 255 := by
    cases fuel with
    | zero => simp [DataW.trod] at hx
    | succ n =>
      unfold DataW.trod at hx
      rw [h] at hx
      split at hx
      · simp_all
      · rename_i k k' m he
        injection he with he
        injection he with he
        subst he
        split at hx
        · rename_i hc
          obtain ⟨rfl, hw⟩ := hc
          simp only [Lit.wf, Bool.and_eq_true, decide_eq_true_eq] at hw
          exact ⟨m, rfl, hw.1, hw.2⟩
        · cases hx
      all_goals simp_all
  obtain ⟨y, rfl, h1, h2⟩ := this
  exact ⟨⟨y, h1, h2⟩, _, _, rfl, rfl, rfl⟩
theorem opens_U8 : Opens Try.prog 5 cU8 := opens_u8 Try.underlying5
theorem opens_U8S : Opens Try.prog 22 (fun xs : List U8 => [dL 1 cU8 U8z xs]) := opens_slice 1 U8z Try.underlying22 opens_U8 (by kernel_rfl) (Nat.lt_of_sub_eq_succ rfl)
end Go.Proofs.Ytamcahpdepepfaa
