
/-
  The law FnExactAgrees, as stated: whatever it is handed, it answers true, and what it was handed reads as it did.
-/
import Derived.Test.YthpjoddhlkcciaaGreatRows
import Derived.WalkKit
import Derived.ProofKit
import Derived.OpenShut
import Derived.ShutString
import Derived.ChangeOld
import Derived.Below
import Derived.SizedLaws
import Derived.Test.YthpjoddhlkcciaaGreatMSH
namespace Go.Proofs.YthpjoddhlkcciaaGreat.fnExactAgrees
open Go Go.ChangeShapes Go.WideShapes Go.ChangeAt Go.RowKit Go.Proofs.YthpjoddhlkcciaaGreat
set_option linter.unusedVariables false
set_option linter.unusedSimpArgs false
theorem own : ownKnob Tryz.prog.godebug = none := by kernel_rfl
theorem laidOut : laidOutB Tryz.prog = true := by kernel_rfl
set_option maxRecDepth 100000 in
theorem lifted (os : Os) (started : os.Started) (H : Type) (enc : TypeId × Value → H) :
    ReturnsInHanded {} Tryz.checked os 5 .any (Rows.fnExactAgreesSpec.pre6 enc Tryz.prog Tryz.f5 Rows.fnExactAgreesRow.domain false) (Rows.fnExactAgreesSpec.post enc Tryz.prog Tryz.f5 false true false false) := by
  refine returnsInHanded_of_change_sized (C := Tryz.checked) own started (by kernel_rfl) Tryz.func5
    (ChangeSpec.witness6 (enc := enc) (C := Tryz.checked) false ⟨#[], #[.agg #[.int .i64 0, .int .i64 0, .slice none 0 0, .slice none 0 0, .slice none 0 0, .bool false]], []⟩ 8 (by kernel_rfl) (by kernel_rfl) (by kernel_rfl) (by kernel_rfl)) ?_
  intro W base args ds gs before hval0 hW hcnd hsz0 _
  have hval : ∀ (j : Nat) t v, Tryz.f5.params[j]? = some t → args[j]? = some v → Value.okWide Tryz.prog W .any base t v := hval0
  have hW' := hW
  obtain ⟨p, q, hA0, hV, rfl, hfz, hnd⟩ := hW
  have hA : DataW.TrodAll enc Tryz.prog W 0 (fun _ => true) true Tryz.f5.params.toList args.toList ds p := hA0
  rw [Tryz.params5] at hA hval
  obtain ⟨v0, vs0, d0, ds0, p0, q0, hargs, rfl, rfl, h0, r0⟩ := trodAll_cons hA
  obtain ⟨rfl, rfl, rfl⟩ := trodAll_nil r0
  obtain rfl : args = #[v0] := by cases args; simp_all
  obtain ⟨rfl, rfl⟩ := trodVars_none hV
  have lt0 : ∀ x ∈ p0, x.block < W.heap.size := by obtain ⟨m, hm⟩ := h0; exact DataW.trod_lt m _ _ _ hm
  have fz0 : W.noneFrozen p0 := noneFrozen_sub hfz fun x hx => by simp [hx]
  obtain ⟨cs0, rfl, _⟩ := okWide_struct Tryz.underlying26 (hval 0 26 v0 rfl rfl)
  obtain ⟨x0, hx0⟩ : ∃ x, D.rds (rofW W) (cCluster x) cs0.toList := by
    obtain ⟨m, hm⟩ := h0
    exact opens_Cluster enc W m _ _ hm fz0
  clear hA0 hval0 hsz0
  refine (Con.ask (exactAgrees_q x0 (D.rds_bd _ hx0)) rfl rfl (B := fun _ => undef) (s := rofW W) (vals := [.agg cs0]) (rofW_fit W) (fun k c e => by cases e) ⟨_, _, rfl, ⟨cs0.toList, by simp, D.rds_toV hx0⟩, rfl⟩).mono fun e W' ⟨v, he, hv, bel⟩ => ?_
  obtain rfl : v = .bool true := hv (fun _ => PH.emp)
  subst he
  exact ⟨_, rfl, _, _, _, [], _, [], hW', trodAll_mk1 (shut_bool Tryz.underlying4 _), (trodAll_cons_mk (Below.trod laidOut (by kernel_rfl) (of_decide_eq_true (by kernel_rfl)) h0 bel lt0) trodAll_mk0), rfl, bel.frame _, fun h => by cases h⟩
theorem over : Rows.fnExactAgreesRow.holds Tryz.pinned (OpenSpec.ofChange Rows.fnExactAgreesSpec) :=
  OpenClaim.holds_of_wide 5 Tryz.f5 rfl rfl rfl rfl rfl rfl rfl ⟨rfl, rfl, rfl, rfl, rfl⟩ rfl rfl rfl rfl rfl (by kernel_rfl) Tryz.func5 (by kernel_rfl)
    (of_decide_eq_true (by kernel_rfl)) (by unfold Func.isWrapper; first | (rw [if_pos (by decide +kernel)]; kernel_rfl) | (rw [if_neg (by decide +kernel)]; exact ⟨rfl, rfl⟩))
    (fun os started H enc _ => lifted os started H enc)
theorem proved : Rows.FnExactAgreesSaid := over
#print axioms proved
end Go.Proofs.YthpjoddhlkcciaaGreat.fnExactAgrees
namespace Go.Proofs.YthpjoddhlkcciaaGreat
/-- The row, under a short name, for the claim. -/
theorem fnExactAgrees_holds : Rows.FnExactAgreesSaid := fnExactAgrees.proved
end Go.Proofs.YthpjoddhlkcciaaGreat
