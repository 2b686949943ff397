
/-
  NewCluster, in the program.
-/
import Derived.Test.YtiegllklalplnaaP26
namespace Go.Proofs.Ytiegllklalplnaa
open Go Go.RowKit
set_option linter.unusedVariables false
set_option linter.unusedSimpArgs false
set_option maxRecDepth 4000

theorem impl_NewCluster_m (a b : Int) : MkCB Try.prog 18 [vI a, vI b] (newClusterM a b).1 (newClusterM a b).2 := by
  cases h : (bif !inB a 1 6 then true else !inB b 1 8) with
  | true =>
    rw [show newClusterM a b = (GCluster.z, false) from by unfold newClusterM; rw [h]; rfl]
    refine con_enter Try.func18 rfl rfl rfl fun B0 r_ D_ w0 => ?_
    refine T_auto TT_ok rfl ?_
    refine RJ_Q TT_ok (impl_within_q _ _ _) rfl rfl rfl rfl rfl ?_
    refine RJ_Q TT_ok (impl_within_q _ _ _) rfl rfl rfl rfl rfl ?_
    rw [h]
    refine T_cond rfl (fun _ => ?_) (fun e => by cases e)
    refine T_auto TT_ok rfl ?_
    refine T_view (V_nilR 4 2 1 (fun i => cPlace (([] : List GPlace).getD i GPlace.z)) rfl rfl rfl) ?_
    refine T_view (V_nilR 4 3 4 (fun i => cMachine (([] : List GMachine).getD i GMachine.z)) rfl rfl rfl) ?_
    refine T_view (V_nilR 4 4 7 (fun i => cTx (([] : List GTx).getD i GTx.z)) rfl rfl rfl) ?_
    refine T_view (V_open 4 2 901 rfl rfl rfl rfl rfl rfl) ?_
    refine T_view (V_open 4 3 902 rfl rfl rfl rfl rfl rfl) ?_
    refine T_view (V_open 4 4 903 rfl rfl rfl rfl rfl rfl) ?_
    refine T_ret TT_ok (()) [(4, some 51), (5, none)] rfl rfl ?_ ?_ ?_
    · exact SVs.imp_refl _
    · exact ⟨⟨_, rfl, Ch.imp_refl _⟩, ⟨_, rfl, Ch.imp_refl _⟩, ⟨_, rfl, Ch.imp_refl _⟩, trivial⟩
    · trivial
  | false =>
    have h1 : inB a 1 6 = true ∧ inB b 1 8 = true := by
      cases c1 : inB a 1 6 <;> cases c2 : inB b 1 8 <;> simp [c1, c2] at h ⊢
    have h2 := inB_iff.1 h1.1
    have h3 := inB_iff.1 h1.2
    rw [show newClusterM a b = (newC a.toNat b.toNat, true) from by unfold newClusterM; rw [h]; rfl]
    obtain ⟨n, rfl⟩ : ∃ n : Nat, a = n := ⟨a.toNat, by omega⟩
    obtain ⟨m, rfl⟩ : ∃ m : Nat, b = m := ⟨b.toNat, by omega⟩
    refine con_enter Try.func18 rfl rfl rfl fun B0 r_ D_ w0 => ?_
    refine T_auto TT_ok rfl ?_
    refine RJ_Q TT_ok (impl_within_q _ _ _) rfl rfl rfl rfl rfl ?_
    refine RJ_Q TT_ok (impl_within_q _ _ _) rfl rfl rfl rfl rfl ?_
    rw [h]
    refine T_cond rfl (fun e => by cases e) (fun _ => ?_)
    refine T_auto TT_ok rfl ?_
    refine RJ_C TT_ok (newCluster_c n m (by omega) (by omega)) rfl rfl (SVs.imp_refl _) (fun _ => rfl) rfl rfl rfl fun _ _ => ?_
    refine RJ_auto TT_ok rfl ?_
    refine T_ret TT_ok (()) [(4, some 51), (5, none)] rfl rfl ?_ ?_ ?_
    · exact SVs.imp_refl _
    · exact ⟨⟨_, rfl, Ch.imp_refl _⟩, ⟨_, rfl, Ch.imp_refl _⟩, ⟨_, rfl, Ch.imp_refl _⟩, trivial⟩
    · trivial
end Go.Proofs.Ytiegllklalplnaa
