
/-
  The law FnBegun, as stated: whatever it is handed, it answers true, and what it was handed reads as it did.
-/
import Derived.Test.YtnffflcjaipdkaaGreatRows
import Derived.WalkKit
import Derived.ProofKit
import Derived.OpenShut
import Derived.ShutString
import Derived.ChangeOld
import Derived.Below
import Derived.SizedLaws
import Derived.Test.YtnffflcjaipdkaaGreatQEBegunA
namespace Go.Proofs.YtnffflcjaipdkaaGreat.fnBegun
open Go Go.ChangeShapes Go.WideShapes Go.ChangeAt Go.RowKit Go.Proofs.YtnffflcjaipdkaaGreat
set_option linter.unusedVariables false
set_option linter.unusedSimpArgs false
theorem own : ownKnob Tryz.prog.godebug = none := by kernel_rfl
theorem laidOut : laidOutB Tryz.prog = true := by kernel_rfl
set_option maxRecDepth 100000 in
theorem lifted (os : Os) (started : os.Started) (H : Type) (enc : TypeId × Value → H) :
    ReturnsInHanded {} Tryz.checked os 4 .any (Rows.fnBegunSpec.pre6 enc Tryz.prog Tryz.f4 Rows.fnBegunRow.domain false) (Rows.fnBegunSpec.post enc Tryz.prog Tryz.f4 false true false false) := by
  refine returnsInHanded_of_change_sized (C := Tryz.checked) own started (by kernel_rfl) Tryz.func4
    (ChangeSpec.witness6 (enc := enc) (C := Tryz.checked) false ⟨#[], #[.slice none 0 0], []⟩ 8 (by kernel_rfl) (by kernel_rfl) (by kernel_rfl) (by kernel_rfl)) ?_
  intro W base args ds gs before hval0 hW hcnd hsz0 _
  have hval : ∀ (j : Nat) t v, Tryz.f4.params[j]? = some t → args[j]? = some v → Value.okWide Tryz.prog W .any base t v := hval0
  have hW' := hW
  obtain ⟨p, q, hA0, hV, rfl, hfz, hnd⟩ := hW
  have hA : DataW.TrodAll enc Tryz.prog W 0 (fun _ => true) true Tryz.f4.params.toList args.toList ds p := hA0
  rw [Tryz.params4] at hA hval
  obtain ⟨v0, vs0, d0, ds0, p0, q0, hargs, rfl, rfl, h0, r0⟩ := trodAll_cons hA
  obtain ⟨rfl, rfl, rfl⟩ := trodAll_nil r0
  obtain rfl : args = #[v0] := by cases args; simp_all
  obtain ⟨rfl, rfl⟩ := trodVars_none hV
  have lt0 : ∀ x ∈ p0, x.block < W.heap.size := by obtain ⟨m, hm⟩ := h0; exact DataW.trod_lt m _ _ _ hm
  obtain ⟨a0, len0, cap0, rfl⟩ := okWide_slice Tryz.underlying22 (hval 0 22 v0 rfl rfl)
  have fz0 : W.noneFrozen p0 := j6 hfz fun x hx => by simp [hx]
  obtain ⟨x0, hx0⟩ : ∃ x, D.rds (oL W) [dL 1 cU8 U8z x] [.slice a0 len0 cap0] := by
    obtain ⟨m, hm⟩ := h0
    exact qE enc W m [.slice a0 len0 cap0] _ hm fz0

  clear hA0 hval0 hsz0
  refine (Con.ask (aBu (n := x0.length) (β := fun k => (x0.getD k U8z).1) (fun k => (x0.getD k U8z).2) ) rfl rfl (B := fun _ => .slice a0 len0 cap0) (s := oL W) (vals := [.slice a0 len0 cap0]) (sK W) (fun k c e => by rw [bV] at e; split at e; (rename_i hk; subst hk; injection e with e; subst e; exact uN hx0); cases e) ⟨_, _, rfl, ⟨rfl, rfl⟩, rfl⟩).mono fun e W' ⟨v, he, hv, bel⟩ => ?_
  obtain rfl : v = .bool true := hv (fun _ => PH.emp)
  subst he
  exact ⟨_, rfl, _, _, _, [], _, [], hW', trodAll_mk1 (shut_bool Tryz.underlying4 _), (trodAll_cons_mk (Below.trod laidOut (by kernel_rfl) (of_decide_eq_true (by kernel_rfl)) h0 bel lt0) trodAll_mk0), rfl, bel.frame _, fun h => by cases h⟩
theorem over : Rows.fnBegunRow.holds Tryz.pinned (OpenSpec.ofChange Rows.fnBegunSpec) :=
  OpenClaim.holds_of_wide 4 Tryz.f4 rfl rfl rfl rfl rfl rfl rfl ⟨rfl, rfl, rfl, rfl, rfl⟩ rfl rfl rfl rfl rfl (by kernel_rfl) Tryz.func4 (by kernel_rfl)
    (of_decide_eq_true (by kernel_rfl)) (by unfold Func.isWrapper; first | (rw [if_pos (by decide +kernel)]; kernel_rfl) | (rw [if_neg (by decide +kernel)]; exact ⟨rfl, rfl⟩))
    (fun os started H enc _ => lifted os started H enc)
theorem proved : Rows.FnBegunSaid := over
#print axioms proved
end Go.Proofs.YtnffflcjaipdkaaGreat.fnBegun
namespace Go.Proofs.YtnffflcjaipdkaaGreat
/-- The row, under a short name, for the claim. -/
theorem fnBegun_holds : Rows.FnBegunSaid := fnBegun.proved
end Go.Proofs.YtnffflcjaipdkaaGreat
