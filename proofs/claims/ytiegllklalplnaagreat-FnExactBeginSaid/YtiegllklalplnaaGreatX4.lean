
/-
  The law of ClusterOk.
-/
import Derived.Test.YtiegllklalplnaaGreatP11
import Derived.Test.YtiegllklalplnaaGreatG3
namespace Go.Proofs.YtiegllklalplnaaGreat
open Go Go.RowKit
set_option linter.unusedVariables false
set_option linter.unusedSimpArgs false
set_option maxRecDepth 4000

theorem small_of {x : GCluster} (e : ¬ szI 1048576 (wCluster x) < 0) : D.bds bigN (cCluster x) := bd_Cluster x (by have := (szI_in e).2.2.2; unfold bigN; omega)
theorem exactClusterOk_q (x : GCluster) (hb : D.bds maxL (cCluster x)) : Ans Tryz.prog 3 [] [vR (cCluster x)] [] (vB true) := by
  refine con_enter Tryz.func3 rfl rfl rfl fun B0 r_ D_ w0 => ?_
  refine T_auto TT_ok rfl ?_
  refine RJ_Q TT_ok (szCluster_g _ hb _ (by decide) (by decide)) rfl rfl rfl rfl rfl ?_
  refine T_condD rfl (fun e => ?_) (fun e => ?_)
  · refine T_auto TT_ok rfl ?_
    exact T_ansB TT_ok [(2, none)] rfl rfl (rfl)
  have h := small_of e
  clear e
  refine T_auto TT_ok rfl ?_
  refine RJ_C TT_ok (Con.sw 901 131 (Con.sw 902 132 (Con.sw 903 133 (toCluster_g x h)))) rfl rfl (SVs.imp_refl _) (fun _ => rfl) rfl rfl rfl fun _ _ => ?_
  refine RJ_auto TT_ok rfl ?_
  refine RJ_Q TT_ok (spec_ClusterOk_q x h) rfl rfl rfl rfl rfl ?_
  refine RJ_C TT_ok (Con.sw 901 161 (Con.sw 902 162 (Con.sw 903 163 (toCluster_g x h)))) rfl rfl (SVs.imp_refl _) (fun _ => rfl) rfl rfl rfl fun _ _ => ?_
  refine RJ_auto TT_ok rfl ?_
  refine RJ_Q TT_ok (impl_ClusterOk_q x h) rfl rfl rfl rfl rfl ?_
  refine T_condX rfl (fun e => by simp at e) (fun _ => ?_)
  refine T_auto TT_ok rfl ?_
  refine T_drawA TT_ok [] rfl rfl fun B0 H0 => ?_
  refine DJ_C 2 (Con.sw 901 241 (Con.sw 902 242 (Con.sw 903 243 (toCluster_g x h)))) rfl rfl rfl (SVs.imp_refl _) (fun _ => rfl) rfl rfl rfl fun _ _ => ?_
  refine DJ_Q1 3 (eqCluster_g x h) rfl rfl rfl rfl rfl ?_
  refine DJ_on TT_ok rfl ?_
  refine DJ_endA TT_ok rfl ?_
  refine T_cond rfl (fun e => by cases e) (fun _ => ?_)
  refine T_auto TT_ok rfl ?_
  exact T_ansB TT_ok [(2, none)] rfl rfl (rfl)
end Go.Proofs.YtiegllklalplnaaGreat
