
/-
  The law FnOrdered, as stated: whatever it is handed, it answers true, and what it was handed reads as it did.
-/
import Derived.Test.YthpjoddhlkcciaaGreatRows
import Derived.WalkKit
import Derived.ProofKit
import Derived.OpenShut
import Derived.ShutString
import Derived.ChangeOld
import Derived.Below
import Derived.SizedLaws
import Derived.Test.YthpjoddhlkcciaaGreatQF
namespace Go.Proofs.YthpjoddhlkcciaaGreat.fnOrdered
open Go Go.ChangeShapes Go.WideShapes Go.ChangeAt Go.RowKit Go.Proofs.YthpjoddhlkcciaaGreat
set_option linter.unusedVariables false
set_option linter.unusedSimpArgs false
theorem own : ownKnob Tryz.prog.godebug = none := by kernel_rfl
theorem laidOut : laidOutB Tryz.prog = true := by kernel_rfl
set_option maxRecDepth 100000 in
theorem lifted (os : Os) (started : os.Started) (H : Type) (enc : TypeId × Value → H) :
    ReturnsInHanded {} Tryz.checked os 7 .any (Rows.fnOrderedSpec.pre6 enc Tryz.prog Tryz.f7 Rows.fnOrderedRow.domain false) (Rows.fnOrderedSpec.post enc Tryz.prog Tryz.f7 false true false false) := by
  refine returnsInHanded_of_change_sized (C := Tryz.checked) own started (by kernel_rfl) Tryz.func7
    (ChangeSpec.witness6 (enc := enc) (C := Tryz.checked) false ⟨#[], #[.slice none 0 0], []⟩ 8 (by kernel_rfl) (by kernel_rfl) (by kernel_rfl) (by kernel_rfl)) ?_
  intro W base args ds gs before hval0 hW hcnd hsz0 _
  have hval : ∀ (j : Nat) t v, Tryz.f7.params[j]? = some t → args[j]? = some v → Value.okWide Tryz.prog W .any base t v := hval0
  have hW' := hW
  obtain ⟨p, q, hA0, hV, rfl, hfz, hnd⟩ := hW
  have hA : DataW.TrodAll enc Tryz.prog W 0 (fun _ => true) true Tryz.f7.params.toList args.toList ds p := hA0
  rw [Tryz.params7] at hA hval
  obtain ⟨v0, vs0, d0, ds0, p0, q0, hargs, rfl, rfl, h0, r0⟩ := trodAll_cons hA
  obtain ⟨rfl, rfl, rfl⟩ := trodAll_nil r0
  obtain rfl : args = #[v0] := by cases args; simp_all
  obtain ⟨rfl, rfl⟩ := trodVars_none hV
  have lt0 : ∀ x ∈ p0, x.block < W.heap.size := by obtain ⟨m, hm⟩ := h0; exact DataW.trod_lt m _ _ _ hm
  obtain ⟨a0, len0, cap0, rfl⟩ := okWide_slice Tryz.underlying48 (hval 0 48 v0 rfl rfl)
  have fz0 : W.noneFrozen p0 := wU hfz fun x hx => by simp [hx]
  obtain ⟨x0, hx0⟩ : ∃ x, D.rds (zQ W) [dL 1 cU8 U8z x] [.slice a0 len0 cap0] := by
    obtain ⟨m, hm⟩ := h0
    exact P7 enc W m [.slice a0 len0 cap0] _ hm fz0

  clear hA0 hval0 hsz0
  refine (Con.ask (QN (n := x0.length) (β := fun k => (x0.getD k U8z).1) (fun k => (x0.getD k U8z).2) ) rfl rfl (B := fun _ => .slice a0 len0 cap0) (s := zQ W) (vals := [.slice a0 len0 cap0]) (SY W) (fun k c e => by rw [bO] at e; split at e; (rename_i hk; subst hk; injection e with e; subst e; exact V1 hx0); cases e) ⟨_, _, rfl, ⟨rfl, rfl⟩, rfl⟩).mono fun e W' ⟨v, he, hv, bel⟩ => ?_
  obtain rfl : v = .bool true := hv (fun _ => PH.emp)
  subst he
  exact ⟨_, rfl, _, _, _, [], _, [], hW', trodAll_mk1 (shut_bool Tryz.underlying4 _), (trodAll_cons_mk (Below.trod laidOut (by kernel_rfl) (of_decide_eq_true (by kernel_rfl)) h0 bel lt0) trodAll_mk0), rfl, bel.frame _, fun h => by cases h⟩
theorem over : Rows.fnOrderedRow.holds Tryz.pinned (OpenSpec.ofChange Rows.fnOrderedSpec) :=
  OpenClaim.holds_of_wide 7 Tryz.f7 rfl rfl rfl rfl rfl rfl rfl ⟨rfl, rfl, rfl, rfl, rfl⟩ rfl rfl rfl rfl rfl (by kernel_rfl) Tryz.func7 (by kernel_rfl)
    (of_decide_eq_true (by kernel_rfl)) (by unfold Func.isWrapper; first | (rw [if_pos (by decide +kernel)]; kernel_rfl) | (rw [if_neg (by decide +kernel)]; exact ⟨rfl, rfl⟩))
    (fun os started H enc _ => lifted os started H enc)
theorem proved : Rows.FnOrderedSaid := over
#print axioms proved
end Go.Proofs.YthpjoddhlkcciaaGreat.fnOrdered
namespace Go.Proofs.YthpjoddhlkcciaaGreat
/-- The row, under a short name, for the claim. -/
theorem fnOrdered_holds : Rows.FnOrderedSaid := fnOrdered.proved
end Go.Proofs.YthpjoddhlkcciaaGreat
