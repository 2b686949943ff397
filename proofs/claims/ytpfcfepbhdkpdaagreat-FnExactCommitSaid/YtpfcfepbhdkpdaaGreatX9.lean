
/-
  The law of Commit.
-/
import Derived.Test.YtpfcfepbhdkpdaaGreatX7
import Derived.Test.YtpfcfepbhdkpdaaGreatP22
namespace Go.Proofs.YtpfcfepbhdkpdaaGreat
open Go Go.RowKit
set_option linter.unusedVariables false
set_option linter.unusedSimpArgs false
set_option maxRecDepth 4000

theorem sumW_put {α : Type} {w : α → Nat} {z y : α} : ∀ (xs : List α) (k : Nat), w y ≤ w (xs.getD k z) → sumW w (xs.set k y) ≤ sumW w xs
  | [], _, _ => Nat.le_refl _
  | x :: r, 0, h => by
    have h : w y ≤ w x := by simpa using h
    simp only [List.set_cons_zero, sumW]; omega
  | x :: r, k + 1, h => by
    have := sumW_put (z := z) (y := y) r k (by simpa using h)
    simp only [List.set_cons_succ, sumW]; omega
theorem commit_w {c : GCluster} (h : wCluster c ≤ 1048576) (id : Int) : wCluster (commitM c id).1 ≤ 1048576 := by
  unfold commitM
  split
  · split
    · have h1 : sumW wTx (c.txs.set (findI c id).toNat (goT (txAt c id))) ≤ sumW wTx c.txs := sumW_put (z := GTx.z) _ _ (Nat.le_refl _)
      unfold wCluster wL at h ⊢
      show c.places.length + sumW wPlace c.places + (c.machines.length + sumW wMachine c.machines) + ((c.txs.set (findI c id).toNat (goT (txAt c id))).length + sumW wTx (c.txs.set (findI c id).toNat (goT (txAt c id)))) ≤ 1048576
      rw [List.length_set]
      omega
    · exact h
  · exact Nat.zero_le _
theorem exactCommit_q (x : GCluster) (a : Int) (hb : D.bds maxL (cCluster x)) : Ans Tryz.prog 3 [] [vR (cCluster x), vI a] [] (vB true) := by
  refine con_enter Tryz.func3 rfl rfl rfl fun B0 r_ D_ w0 => ?_
  refine T_auto TT_ok rfl ?_
  refine RJ_Q TT_ok (szCluster_g _ hb _ (by decide) (by decide)) rfl rfl rfl rfl rfl ?_
  refine T_condD rfl (fun e => ?_) (fun e => ?_)
  · refine T_auto TT_ok rfl ?_
    exact T_ansB TT_ok [(4, none)] rfl rfl (rfl)
  have h := small_of e
  have hM : (1 : Int) + (sumW mPlace x.places : Nat) + (sumW mMachine x.machines : Nat) + (sumW mTx x.txs : Nat) ≤ 1000000000000 := marks_of e
  have hN : decide ((1 : Int) + (sumW mPlace x.places : Nat) + (sumW mMachine x.machines : Nat) + (sumW mTx x.txs : Nat) < 0) = false := decide_eq_false (by omega)
  have hw := commit_w (small_w e) a
  have h3 := bd_Cluster _ hw
  have hR := marks_le hw
  clear e
  refine T_auto TT_ok rfl ?_
  refine RJ_C TT_ok (Con.sw 901 7201 (Con.sw 902 7202 (Con.sw 903 7203 (toCluster_g x h)))) rfl rfl (SVs.imp_refl _) (fun _ => rfl) rfl rfl rfl fun _ _ => ?_
  refine RJ_auto TT_ok rfl ?_
  refine RJ_C TT_ok (Con.sw 901 50011 (Con.sw 902 50012 (Con.sw 903 50013 (spec_Commit_m x h a)))) rfl rfl (SVs.imp_refl _) (fun _ => rfl) rfl rfl rfl fun _ _ => ?_
  refine RJ_auto TT_ok rfl ?_
  refine RJ_C TT_ok (Con.sw 901 7211 (Con.sw 902 7212 (Con.sw 903 7213 (toCluster_g x h)))) rfl rfl (SVs.imp_refl _) (fun _ => rfl) rfl rfl rfl fun _ _ => ?_
  refine RJ_auto TT_ok rfl ?_
  refine RJ_C TT_ok (Con.sw 901 50021 (Con.sw 902 50022 (Con.sw 903 50023 (impl_Commit_m x h a)))) rfl rfl (SVs.imp_refl _) (fun _ => rfl) rfl rfl rfl fun _ _ => ?_
  refine RJ_auto TT_ok rfl ?_
  refine RJ_Q TT_ok (eqCluster_g _ h3) rfl rfl rfl rfl rfl ?_
  refine T_cond rfl (fun e => by simp at e) (fun _ => ?_)
  refine T_auto TT_ok rfl ?_
  refine T_drawA TT_ok [] rfl rfl fun B0 H0 => ?_
  refine DJ_C 2 (Con.sw 901 7241 (Con.sw 902 7242 (Con.sw 903 7243 (toCluster_g x h)))) rfl rfl rfl (SVs.imp_refl _) (fun _ => rfl) rfl rfl rfl fun _ _ => ?_
  refine DJ_Q1 3 (eqCluster_g x h) rfl rfl rfl rfl rfl ?_
  refine DJ_on TT_ok rfl ?_
  refine DJ_endA TT_ok rfl ?_
  refine T_cond rfl (fun e => by cases e) (fun _ => ?_)
  refine T_auto TT_ok rfl ?_
  refine RJ_C TT_ok (Con.sw 901 7211 (Con.sw 902 7212 (Con.sw 903 7213 (markCluster_g x h 1 (by decide) hM)))) rfl rfl (SVs.imp_refl _) (fun _ => rfl) rfl rfl rfl fun _ _ => ?_
  refine RJ_auto TT_ok rfl ?_
  refine RJ_Q TT_ok (eqCluster_g _ h3) rfl rfl rfl rfl rfl ?_
  refine T_cond rfl (fun e => by rw [hN] at e; simp at e) (fun _ => ?_)
  refine T_auto TT_ok rfl ?_
  refine RJ_C TT_ok (Con.sw 901 50021 (Con.sw 902 50022 (Con.sw 903 50023 (markCluster_g _ h3 1 (by decide) hR)))) rfl rfl (SVs.imp_refl _) (fun _ => rfl) rfl rfl rfl fun _ _ => ?_
  refine RJ_auto TT_ok rfl ?_
  refine RJ_Q TT_ok (heldCluster_g _ h3 1 (by decide) hR) rfl rfl rfl rfl rfl ?_
  refine T_condD rfl (fun e => by omega) (fun _ => ?_)
  refine T_auto TT_ok rfl ?_
  refine T_condN rfl (fun e => absurd rfl e) (fun _ => ?_)
  refine T_auto TT_ok rfl ?_
  refine RJ_C TT_ok (Con.sw 901 7551 (Con.sw 902 7552 (Con.sw 903 7553 (toCluster_g x h)))) rfl rfl (SVs.imp_refl _) (fun _ => rfl) rfl rfl rfl fun _ _ => ?_
  refine RJ_auto TT_ok rfl ?_
  refine RJ_C TT_ok (Con.sw 901 50031 (Con.sw 902 50032 (Con.sw 903 50033 (impl_Commit_m x h a)))) rfl rfl (SVs.imp_refl _) (fun _ => rfl) rfl rfl rfl fun _ _ => ?_
  refine RJ_auto TT_ok rfl ?_
  refine RJ_Q TT_ok (eqCluster_g _ h3) rfl rfl rfl rfl rfl ?_
  refine T_cond rfl (fun e => by simp at e) (fun _ => ?_)
  refine T_auto TT_ok rfl ?_
  refine RJ_Q TT_ok (heldCluster_g _ h3 1 (by decide) hR) rfl rfl rfl rfl rfl ?_
  refine T_condD rfl (fun e => by omega) (fun _ => ?_)
  refine T_auto TT_ok rfl ?_
  refine T_condN rfl (fun e => absurd rfl e) (fun _ => ?_)
  refine T_auto TT_ok rfl ?_
  exact T_ansB TT_ok [(4, none)] rfl rfl (rfl)
end Go.Proofs.YtpfcfepbhdkpdaaGreat
