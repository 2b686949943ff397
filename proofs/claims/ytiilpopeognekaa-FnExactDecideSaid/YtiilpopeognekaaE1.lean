/-
  The law of Decide, as stated: whatever votes it is handed, it answers true, and the votes read as they did.
-/
import Derived.Test.YtiilpopeognekaaRows
import Derived.Test.YtiilpopeognekaaQ3
import Derived.Test.YtiilpopeognekaaO
import Derived.WalkKit
import Derived.ProofKit
import Derived.OpenShut
import Derived.ShutString
import Derived.ChangeOld
import Derived.Below
import Derived.SizedLaws
namespace Go.Proofs.Ytiilpopeognekaa.fnExactDecide
open Go Go.ChangeShapes Go.WideShapes Go.ChangeAt Go.RowKit Go.Proofs.Ytiilpopeognekaa
set_option linter.unusedVariables false
set_option linter.unusedSimpArgs false
theorem own : ownKnob Try.prog.godebug = none := by kernel_rfl
theorem laidOut : laidOutB Try.prog = true := by kernel_rfl
set_option maxRecDepth 100000 in
theorem lifted (os : Os) (started : os.Started) (H : Type) (enc : TypeId × Value → H) :
    ReturnsInHanded {} Try.checked os 3 .any (Rows.fnExactDecideSpec.pre6 enc Try.prog Try.f3 Rows.fnExactDecideRow.domain false) (Rows.fnExactDecideSpec.post enc Try.prog Try.f3 false true false false) := by
  refine returnsInHanded_of_change_sized (C := Try.checked) own started (by kernel_rfl) Try.func3
    (ChangeSpec.witness6 (enc := enc) (C := Try.checked) false ⟨#[], #[.slice none 0 0], []⟩ 8 (by kernel_rfl) (by kernel_rfl) (by kernel_rfl) (by kernel_rfl)) ?_
  intro W base args ds gs before hval0 hW hcnd hsz0 _
  have hval : ∀ (j : Nat) t v, Try.f3.params[j]? = some t → args[j]? = some v → Value.okWide Try.prog W .any base t v := hval0
  have hW' := hW
  obtain ⟨p, q, hA0, hV, rfl, hfz, hnd⟩ := hW
  have hA : DataW.TrodAll enc Try.prog W 0 (fun _ => true) true Try.f3.params.toList args.toList ds p := hA0
  rw [Try.params3] at hA hval
  obtain ⟨v0, vs0, d0, ds0, p0, q0, hargs, rfl, rfl, h0, r0⟩ := trodAll_cons hA
  obtain ⟨rfl, rfl, rfl⟩ := trodAll_nil r0
  obtain rfl : args = #[v0] := by cases args; simp_all
  obtain ⟨rfl, rfl⟩ := trodVars_none hV
  have lt0 : ∀ x ∈ p0, x.block < W.heap.size := by obtain ⟨m, hm⟩ := h0; exact DataW.trod_lt m _ _ _ hm
  have fz0 : W.noneFrozen p0 := noneFrozen_sub hfz fun x hx => by simp [hx]
  obtain ⟨a0, len0, cap0, rfl⟩ := okWide_slice Try.underlying22 (hval 0 22 v0 rfl rfl)
  obtain ⟨xs, hS⟩ : ∃ xs, kInt.srd (rofW W) (.slice a0 len0 cap0) xs := by
    obtain ⟨m, hm⟩ := h0
    obtain ⟨xs, v, e1, e2⟩ := opens_slice Try.underlying22 (opens_int Try.underlying2) (by kernel_rfl) (Nat.lt_of_sub_eq_succ rfl) enc W m _ _ hm fz0
    simp [Value.cells] at e1
    subst e1
    exact ⟨xs, e2⟩
  clear hA0 hval0 hsz0
  refine (exactDecide_q (rofW_fit W) xs _ hS).mono fun e W' ⟨he, bel⟩ => ?_
  subst he
  exact ⟨_, rfl, _, _, _, [], _, [], hW', trodAll_mk1 (shut_bool Try.underlying4 _), (trodAll_cons_mk (Below.trod laidOut (by kernel_rfl) (of_decide_eq_true (by kernel_rfl)) h0 bel lt0) trodAll_mk0), rfl, bel.frame _, fun h => by cases h⟩
theorem over : Rows.fnExactDecideRow.holds Try.pinned (OpenSpec.ofChange Rows.fnExactDecideSpec) :=
  OpenClaim.holds_of_wide 3 Try.f3 rfl rfl rfl rfl rfl rfl rfl ⟨rfl, rfl, rfl, rfl, rfl⟩ rfl rfl rfl rfl rfl (by kernel_rfl) Try.func3 (by kernel_rfl)
    (of_decide_eq_true (by kernel_rfl)) (by unfold Func.isWrapper; first | (rw [if_pos (by decide +kernel)]; kernel_rfl) | (rw [if_neg (by decide +kernel)]; exact ⟨rfl, rfl⟩))
    (fun os started H enc _ => lifted os started H enc)
theorem proved : Rows.FnExactDecideSaid := over
#print axioms proved
end Go.Proofs.Ytiilpopeognekaa.fnExactDecide
namespace Go.Proofs.Ytiilpopeognekaa
/-- The row, under a short name, for the claim. -/
theorem fnExactDecide_holds : Rows.FnExactDecideSaid := fnExactDecide.proved
end Go.Proofs.Ytiilpopeognekaa
