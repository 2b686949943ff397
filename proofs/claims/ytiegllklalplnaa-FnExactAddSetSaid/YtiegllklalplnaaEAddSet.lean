
/-
  The law FnExactAddSet, as stated: whatever it is handed, it answers true, and what it was handed reads as it did.
-/
import Derived.Test.YtiegllklalplnaaRows
import Derived.Test.YtiegllklalplnaaX8
import Derived.Test.YtiegllklalplnaaO2
import Derived.WalkKit
import Derived.ProofKit
import Derived.OpenShut
import Derived.ShutString
import Derived.ChangeOld
import Derived.Below
import Derived.SizedLaws
namespace Go.Proofs.Ytiegllklalplnaa.fnExactAddSet
open Go Go.ChangeShapes Go.WideShapes Go.ChangeAt Go.RowKit Go.Proofs.Ytiegllklalplnaa
set_option linter.unusedVariables false
set_option linter.unusedSimpArgs false
theorem own : ownKnob Try.prog.godebug = none := by kernel_rfl
theorem laidOut : laidOutB Try.prog = true := by kernel_rfl
set_option maxRecDepth 100000 in
theorem lifted (os : Os) (started : os.Started) (H : Type) (enc : TypeId × Value → H) :
    ReturnsInHanded {} Try.checked os 4 .any (Rows.fnExactAddSetSpec.pre6 enc Try.prog Try.f4 Rows.fnExactAddSetRow.domain false) (Rows.fnExactAddSetSpec.post enc Try.prog Try.f4 false true false false) := by
  refine returnsInHanded_of_change_sized (C := Try.checked) own started (by kernel_rfl) Try.func4
    (ChangeSpec.witness6 (enc := enc) (C := Try.checked) false ⟨#[], #[.agg #[.int .i64 0, .int .i64 0, .int .i64 0, .int .i64 0, .slice none 0 0, .slice none 0 0, .int .i64 0], .agg #[.int .i64 0, .int .i64 0, .int .i64 0, .bool false, .int .i64 0]], []⟩ 8 (by kernel_rfl) (by kernel_rfl) (by kernel_rfl) (by kernel_rfl)) ?_
  intro W base args ds gs before hval0 hW hcnd hsz0 _
  have hval : ∀ (j : Nat) t v, Try.f4.params[j]? = some t → args[j]? = some v → Value.okWide Try.prog W .any base t v := hval0
  have hW' := hW
  obtain ⟨p, q, hA0, hV, rfl, hfz, hnd⟩ := hW
  have hA : DataW.TrodAll enc Try.prog W 0 (fun _ => true) true Try.f4.params.toList args.toList ds p := hA0
  rw [Try.params4] at hA hval
  obtain ⟨v0, vs0, d0, ds0, p0, q0, hargs, rfl, rfl, h0, r0⟩ := trodAll_cons hA
  obtain ⟨v1, vs1, d1, ds1, p1, q1, rfl, rfl, rfl, h1, r1⟩ := trodAll_cons r0
  obtain ⟨rfl, rfl, rfl⟩ := trodAll_nil r1
  obtain rfl : args = #[v0, v1] := by cases args; simp_all
  obtain ⟨rfl, rfl⟩ := trodVars_none hV
  have lt0 : ∀ x ∈ p0, x.block < W.heap.size := by obtain ⟨m, hm⟩ := h0; exact DataW.trod_lt m _ _ _ hm
  have lt1 : ∀ x ∈ p1, x.block < W.heap.size := by obtain ⟨m, hm⟩ := h1; exact DataW.trod_lt m _ _ _ hm
  have fz0 : W.noneFrozen p0 := noneFrozen_sub hfz fun x hx => by simp [hx]
  obtain ⟨cs0, rfl, _⟩ := okWide_struct Try.underlying25 (hval 0 25 v0 rfl rfl)
  obtain ⟨x0, hx0⟩ : ∃ x, D.rds (rofW W) (cTx x) cs0.toList := by
    obtain ⟨m, hm⟩ := h0
    exact opens_Tx enc W m _ _ hm fz0
  have fz1 : W.noneFrozen p1 := noneFrozen_sub hfz fun x hx => by simp [hx]
  obtain ⟨cs1, rfl, _⟩ := okWide_struct Try.underlying42 (hval 1 42 v1 rfl rfl)
  obtain ⟨x1, hx1⟩ : ∃ x, D.rds (rofW W) (cSet x) cs1.toList := by
    obtain ⟨m, hm⟩ := h1
    exact opens_Set enc W m _ _ hm fz1
  clear hA0 hval0 hsz0
  refine (Con.ask (exactAddSet_q x0 x1 (D.rds_bd _ hx0)) rfl rfl (B := fun _ => undef) (s := rofW W) (vals := [.agg cs0, .agg cs1]) (rofW_fit W) (fun k c e => by cases e) ⟨_, _, rfl, ⟨cs0.toList, by simp, D.rds_toV hx0⟩, ⟨_, _, rfl, ⟨cs1.toList, by simp, D.rds_toV hx1⟩, rfl⟩⟩).mono fun e W' ⟨v, he, hv, bel⟩ => ?_
  obtain rfl : v = .bool true := hv (fun _ => PH.emp)
  subst he
  exact ⟨_, rfl, _, _, _, [], _, [], hW', trodAll_mk1 (shut_bool Try.underlying4 _), (trodAll_cons_mk (Below.trod laidOut (by kernel_rfl) (of_decide_eq_true (by kernel_rfl)) h0 bel lt0) (trodAll_cons_mk (Below.trod laidOut (by kernel_rfl) (of_decide_eq_true (by kernel_rfl)) h1 bel lt1) trodAll_mk0)), rfl, bel.frame _, fun h => by cases h⟩
theorem over : Rows.fnExactAddSetRow.holds Try.pinned (OpenSpec.ofChange Rows.fnExactAddSetSpec) :=
  OpenClaim.holds_of_wide 4 Try.f4 rfl rfl rfl rfl rfl rfl rfl ⟨rfl, rfl, rfl, rfl, rfl⟩ rfl rfl rfl rfl rfl (by kernel_rfl) Try.func4 (by kernel_rfl)
    (of_decide_eq_true (by kernel_rfl)) (by unfold Func.isWrapper; first | (rw [if_pos (by decide +kernel)]; kernel_rfl) | (rw [if_neg (by decide +kernel)]; exact ⟨rfl, rfl⟩))
    (fun os started H enc _ => lifted os started H enc)
theorem proved : Rows.FnExactAddSetSaid := over
#print axioms proved
end Go.Proofs.Ytiegllklalplnaa.fnExactAddSet
namespace Go.Proofs.Ytiegllklalplnaa
/-- The row, under a short name, for the claim. -/
theorem fnExactAddSet_holds : Rows.FnExactAddSetSaid := fnExactAddSet.proved
end Go.Proofs.Ytiegllklalplnaa
