
/-
  The laws of Settled, Vote, Upper, Cells, Stricken.
-/
import Derived.Test.YtiegllklalplnaaGreatP15
import Derived.Test.YtiegllklalplnaaGreatX4
namespace Go.Proofs.YtiegllklalplnaaGreat
open Go Go.RowKit
set_option linter.unusedVariables false
set_option linter.unusedSimpArgs false
set_option maxRecDepth 4000

theorem exactSettled_q (x : GCluster) (hb : D.bds maxL (cCluster x)) : Ans Tryz.prog 4 [] [vR (cCluster x)] [] (vB true) := by
  refine con_enter Tryz.func4 rfl rfl rfl fun B0 r_ D_ w0 => ?_
  refine T_auto TT_ok rfl ?_
  refine RJ_Q TT_ok (szCluster_g _ hb _ (by decide) (by decide)) rfl rfl rfl rfl rfl ?_
  refine T_condD rfl (fun e => ?_) (fun e => ?_)
  · refine T_auto TT_ok rfl ?_
    exact T_ansB TT_ok [(2, none)] rfl rfl (rfl)
  have h := small_of e
  clear e
  refine T_auto TT_ok rfl ?_
  refine RJ_C TT_ok (Con.sw 901 7131 (Con.sw 902 7132 (Con.sw 903 7133 (toCluster_g x h)))) rfl rfl (SVs.imp_refl _) (fun _ => rfl) rfl rfl rfl fun _ _ => ?_
  refine RJ_auto TT_ok rfl ?_
  refine RJ_Q TT_ok (spec_Settled_q x h) rfl rfl rfl rfl rfl ?_
  refine RJ_C TT_ok (Con.sw 901 7161 (Con.sw 902 7162 (Con.sw 903 7163 (toCluster_g x h)))) rfl rfl (SVs.imp_refl _) (fun _ => rfl) rfl rfl rfl fun _ _ => ?_
  refine RJ_auto TT_ok rfl ?_
  refine RJ_Q TT_ok (impl_Settled_q x h) rfl rfl rfl rfl rfl ?_
  refine T_condX rfl (fun e => by simp at e) (fun _ => ?_)
  refine T_auto TT_ok rfl ?_
  refine T_drawA TT_ok [] rfl rfl fun B0 H0 => ?_
  refine DJ_C 2 (Con.sw 901 7241 (Con.sw 902 7242 (Con.sw 903 7243 (toCluster_g x h)))) rfl rfl rfl (SVs.imp_refl _) (fun _ => rfl) rfl rfl rfl fun _ _ => ?_
  refine DJ_Q1 3 (eqCluster_g x h) rfl rfl rfl rfl rfl ?_
  refine DJ_on TT_ok rfl ?_
  refine DJ_endA TT_ok rfl ?_
  refine T_cond rfl (fun e => by cases e) (fun _ => ?_)
  refine T_auto TT_ok rfl ?_
  exact T_ansB TT_ok [(2, none)] rfl rfl (rfl)
theorem exactStricken_q (x : GCluster) (id : Int) (hb : D.bds maxL (cCluster x)) : Ans Tryz.prog 8 [] [vR (cCluster x), vI id] [] (vB true) := by
  refine con_enter Tryz.func8 rfl rfl rfl fun B0 r_ D_ w0 => ?_
  refine T_auto TT_ok rfl ?_
  refine RJ_Q TT_ok (szCluster_g _ hb _ (by decide) (by decide)) rfl rfl rfl rfl rfl ?_
  refine T_condD rfl (fun e => ?_) (fun e => ?_)
  · refine T_auto TT_ok rfl ?_
    exact T_ansB TT_ok [(4, none)] rfl rfl (rfl)
  have h := small_of e
  clear e
  refine T_auto TT_ok rfl ?_
  refine RJ_C TT_ok (Con.sw 901 7131 (Con.sw 902 7132 (Con.sw 903 7133 (toCluster_g x h)))) rfl rfl (SVs.imp_refl _) (fun _ => rfl) rfl rfl rfl fun _ _ => ?_
  refine RJ_auto TT_ok rfl ?_
  refine RJ_Q TT_ok (spec_Stricken_q x h id) rfl rfl rfl rfl rfl ?_
  refine RJ_C TT_ok (Con.sw 901 7161 (Con.sw 902 7162 (Con.sw 903 7163 (toCluster_g x h)))) rfl rfl (SVs.imp_refl _) (fun _ => rfl) rfl rfl rfl fun _ _ => ?_
  refine RJ_auto TT_ok rfl ?_
  refine RJ_Q TT_ok (impl_Stricken_q x h id) rfl rfl rfl rfl rfl ?_
  refine T_condX rfl (fun e => by simp at e) (fun _ => ?_)
  refine T_auto TT_ok rfl ?_
  refine T_drawA TT_ok [] rfl rfl fun B0 H0 => ?_
  refine DJ_C 2 (Con.sw 901 7241 (Con.sw 902 7242 (Con.sw 903 7243 (toCluster_g x h)))) rfl rfl rfl (SVs.imp_refl _) (fun _ => rfl) rfl rfl rfl fun _ _ => ?_
  refine DJ_Q1 3 (eqCluster_g x h) rfl rfl rfl rfl rfl ?_
  refine DJ_on TT_ok rfl ?_
  refine DJ_endA TT_ok rfl ?_
  refine T_cond rfl (fun e => by cases e) (fun _ => ?_)
  refine T_auto TT_ok rfl ?_
  exact T_ansB TT_ok [(4, none)] rfl rfl (rfl)
theorem exactVote_q (x : GCluster) (id : Int) (r0 : Int) (hb : D.bds maxL (cCluster x)) : Ans Tryz.prog 5 [] [vR (cCluster x), vI id, vI r0] [] (vB true) := by
  refine con_enter Tryz.func5 rfl rfl rfl fun B0 r_ D_ w0 => ?_
  refine T_auto TT_ok rfl ?_
  refine RJ_Q TT_ok (szCluster_g _ hb _ (by decide) (by decide)) rfl rfl rfl rfl rfl ?_
  refine T_condD rfl (fun e => ?_) (fun e => ?_)
  · refine T_auto TT_ok rfl ?_
    exact T_ansB TT_ok [(6, none)] rfl rfl (rfl)
  have h := small_of e
  clear e
  refine T_auto TT_ok rfl ?_
  refine RJ_C TT_ok (Con.sw 901 7131 (Con.sw 902 7132 (Con.sw 903 7133 (toCluster_g x h)))) rfl rfl (SVs.imp_refl _) (fun _ => rfl) rfl rfl rfl fun _ _ => ?_
  refine RJ_auto TT_ok rfl ?_
  refine RJ_Q TT_ok (spec_Vote_q x h id r0) rfl rfl rfl rfl rfl ?_
  refine RJ_C TT_ok (Con.sw 901 7161 (Con.sw 902 7162 (Con.sw 903 7163 (toCluster_g x h)))) rfl rfl (SVs.imp_refl _) (fun _ => rfl) rfl rfl rfl fun _ _ => ?_
  refine RJ_auto TT_ok rfl ?_
  refine RJ_Q TT_ok (impl_Vote_q x h id r0) rfl rfl rfl rfl rfl ?_
  refine T_condN rfl (fun e => absurd rfl e) (fun _ => ?_)
  refine T_auto TT_ok rfl ?_
  refine T_drawA TT_ok [] rfl rfl fun B0 H0 => ?_
  refine DJ_C 2 (Con.sw 901 7241 (Con.sw 902 7242 (Con.sw 903 7243 (toCluster_g x h)))) rfl rfl rfl (SVs.imp_refl _) (fun _ => rfl) rfl rfl rfl fun _ _ => ?_
  refine DJ_Q1 3 (eqCluster_g x h) rfl rfl rfl rfl rfl ?_
  refine DJ_on TT_ok rfl ?_
  refine DJ_endA TT_ok rfl ?_
  refine T_cond rfl (fun e => by cases e) (fun _ => ?_)
  refine T_auto TT_ok rfl ?_
  exact T_ansB TT_ok [(6, none)] rfl rfl (rfl)
end Go.Proofs.YtiegllklalplnaaGreat
