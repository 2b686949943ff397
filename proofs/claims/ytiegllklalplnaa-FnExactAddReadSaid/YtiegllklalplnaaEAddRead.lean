
/-
  The law FnExactAddRead, as stated: whatever it is handed, it answers true, and what it was handed reads as it did.
-/
import Derived.Test.YtiegllklalplnaaRows
import Derived.Test.YtiegllklalplnaaX8
import Derived.Test.YtiegllklalplnaaO2
import Derived.WalkKit
import Derived.ProofKit
import Derived.OpenShut
import Derived.ShutString
import Derived.ChangeOld
import Derived.Below
import Derived.SizedLaws
namespace Go.Proofs.Ytiegllklalplnaa.fnExactAddRead
open Go Go.ChangeShapes Go.WideShapes Go.ChangeAt Go.RowKit Go.Proofs.Ytiegllklalplnaa
set_option linter.unusedVariables false
set_option linter.unusedSimpArgs false
theorem own : ownKnob Try.prog.godebug = none := by kernel_rfl
theorem laidOut : laidOutB Try.prog = true := by kernel_rfl
set_option maxRecDepth 100000 in
theorem lifted (os : Os) (started : os.Started) (H : Type) (enc : TypeId × Value → H) :
    ReturnsInHanded {} Try.checked os 3 .any (Rows.fnExactAddReadSpec.pre6 enc Try.prog Try.f3 Rows.fnExactAddReadRow.domain false) (Rows.fnExactAddReadSpec.post enc Try.prog Try.f3 false true false false) := by
  refine returnsInHanded_of_change_sized (C := Try.checked) own started (by kernel_rfl) Try.func3
    (ChangeSpec.witness6 (enc := enc) (C := Try.checked) false ⟨#[], #[.agg #[.int .i64 0, .int .i64 0, .int .i64 0, .int .i64 0, .slice none 0 0, .slice none 0 0, .int .i64 0], .agg #[.int .i64 0, .int .i64 0, .int .i64 0, .int .i64 0, .bool false]], []⟩ 8 (by kernel_rfl) (by kernel_rfl) (by kernel_rfl) (by kernel_rfl)) ?_
  intro W base args ds gs before hval0 hW hcnd hsz0 _
  have hval : ∀ (j : Nat) t v, Try.f3.params[j]? = some t → args[j]? = some v → Value.okWide Try.prog W .any base t v := hval0
  have hW' := hW
  obtain ⟨p, q, hA0, hV, rfl, hfz, hnd⟩ := hW
  have hA : DataW.TrodAll enc Try.prog W 0 (fun _ => true) true Try.f3.params.toList args.toList ds p := hA0
  rw [Try.params3] at hA hval
  obtain ⟨v0, vs0, d0, ds0, p0, q0, hargs, rfl, rfl, h0, r0⟩ := trodAll_cons hA
  obtain ⟨v1, vs1, d1, ds1, p1, q1, rfl, rfl, rfl, h1, r1⟩ := trodAll_cons r0
  obtain ⟨rfl, rfl, rfl⟩ := trodAll_nil r1
  obtain rfl : args = #[v0, v1] := by cases args; simp_all
  obtain ⟨rfl, rfl⟩ := trodVars_none hV
  have lt0 : ∀ x ∈ p0, x.block < W.heap.size := by obtain ⟨m, hm⟩ := h0; exact DataW.trod_lt m _ _ _ hm
  have lt1 : ∀ x ∈ p1, x.block < W.heap.size := by obtain ⟨m, hm⟩ := h1; exact DataW.trod_lt m _ _ _ hm
  have fz0 : W.noneFrozen p0 := noneFrozen_sub hfz fun x hx => by simp [hx]
  obtain ⟨cs0, rfl, _⟩ := okWide_struct Try.underlying25 (hval 0 25 v0 rfl rfl)
  obtain ⟨x0, hx0⟩ : ∃ x, D.rds (rofW W) (cTx x) cs0.toList := by
    obtain ⟨m, hm⟩ := h0
    exact opens_Tx enc W m _ _ hm fz0
  have fz1 : W.noneFrozen p1 := noneFrozen_sub hfz fun x hx => by simp [hx]
  obtain ⟨cs1, rfl, _⟩ := okWide_struct Try.underlying27 (hval 1 27 v1 rfl rfl)
  obtain ⟨x1, hx1⟩ : ∃ x, D.rds (rofW W) (cNote x) cs1.toList := by
    obtain ⟨m, hm⟩ := h1
    exact opens_Note enc W m _ _ hm fz1
  clear hA0 hval0 hsz0
  refine (Con.ask (exactAddRead_q x0 x1 (D.rds_bd _ hx0)) rfl rfl (B := fun _ => undef) (s := rofW W) (vals := [.agg cs0, .agg cs1]) (rofW_fit W) (fun k c e => by cases e) ⟨_, _, rfl, ⟨cs0.toList, by simp, D.rds_toV hx0⟩, ⟨_, _, rfl, ⟨cs1.toList, by simp, D.rds_toV hx1⟩, rfl⟩⟩).mono fun e W' ⟨v, he, hv, bel⟩ => ?_
  obtain rfl : v = .bool true := hv (fun _ => PH.emp)
  subst he
  exact ⟨_, rfl, _, _, _, [], _, [], hW', trodAll_mk1 (shut_bool Try.underlying4 _), (trodAll_cons_mk (Below.trod laidOut (by kernel_rfl) (of_decide_eq_true (by kernel_rfl)) h0 bel lt0) (trodAll_cons_mk (Below.trod laidOut (by kernel_rfl) (of_decide_eq_true (by kernel_rfl)) h1 bel lt1) trodAll_mk0)), rfl, bel.frame _, fun h => by cases h⟩
theorem over : Rows.fnExactAddReadRow.holds Try.pinned (OpenSpec.ofChange Rows.fnExactAddReadSpec) :=
  OpenClaim.holds_of_wide 3 Try.f3 rfl rfl rfl rfl rfl rfl rfl ⟨rfl, rfl, rfl, rfl, rfl⟩ rfl rfl rfl rfl rfl (by kernel_rfl) Try.func3 (by kernel_rfl)
    (of_decide_eq_true (by kernel_rfl)) (by unfold Func.isWrapper; first | (rw [if_pos (by decide +kernel)]; kernel_rfl) | (rw [if_neg (by decide +kernel)]; exact ⟨rfl, rfl⟩))
    (fun os started H enc _ => lifted os started H enc)
theorem proved : Rows.FnExactAddReadSaid := over
#print axioms proved
end Go.Proofs.Ytiegllklalplnaa.fnExactAddRead
namespace Go.Proofs.Ytiegllklalplnaa
/-- The row, under a short name, for the claim. -/
theorem fnExactAddRead_holds : Rows.FnExactAddReadSaid := fnExactAddRead.proved
end Go.Proofs.Ytiegllklalplnaa
