
/-
  The laws of Upper, Cells.
-/
import Derived.Test.YtiegllklalplnaaGreatX4
import Derived.Test.YtiegllklalplnaaGreatP15
namespace Go.Proofs.YtiegllklalplnaaGreat
open Go Go.RowKit
set_option linter.unusedVariables false
set_option linter.unusedSimpArgs false
set_option maxRecDepth 4000

theorem marks_le {x : GCluster} (h : wCluster x ≤ 1048576) : (1 : Int) + (sumW mPlace x.places : Nat) + (sumW mMachine x.machines : Nat) + (sumW mTx x.txs : Nat) ≤ 1000000000000 := by
  have := mCluster_le x
  unfold mCluster at this
  omega
theorem marks_of {x : GCluster} (e : ¬ szI 1048576 (wCluster x) < 0) : (1 : Int) + (sumW mPlace x.places : Nat) + (sumW mMachine x.machines : Nat) + (sumW mTx x.txs : Nat) ≤ 1000000000000 := marks_le (by have := (szI_in e).2.2.2; omega)
theorem exactUpper_q (x : GCluster) (hb : D.bds maxL (cCluster x)) : Ans Tryz.prog 6 [] [vR (cCluster x)] [] (vB true) := by
  refine con_enter Tryz.func6 rfl rfl rfl fun B0 r_ D_ w0 => ?_
  refine T_auto TT_ok rfl ?_
  refine RJ_Q TT_ok (szCluster_g _ hb _ (by decide) (by decide)) rfl rfl rfl rfl rfl ?_
  refine T_condD rfl (fun e => ?_) (fun e => ?_)
  · refine T_auto TT_ok rfl ?_
    exact T_ansB TT_ok [(2, none)] rfl rfl (rfl)
  have h := small_of e
  have hM : (1 : Int) + (sumW mPlace x.places : Nat) + (sumW mMachine x.machines : Nat) + (sumW mTx x.txs : Nat) ≤ 1000000000000 := marks_of e
  have hN : decide ((1 : Int) + (sumW mPlace x.places : Nat) + (sumW mMachine x.machines : Nat) + (sumW mTx x.txs : Nat) < 0) = false := decide_eq_false (by omega)
  have h3 : (upperM x).length ≤ 1048576 := Nat.le_trans (upperM_le x) h.2.2.2.1.1
  clear e
  refine T_auto TT_ok rfl ?_
  refine RJ_C TT_ok (Con.sw 901 7201 (Con.sw 902 7202 (Con.sw 903 7203 (toCluster_g x h)))) rfl rfl (SVs.imp_refl _) (fun _ => rfl) rfl rfl rfl fun _ _ => ?_
  refine RJ_auto TT_ok rfl ?_
  refine RJ_C TT_ok (Con.sw 900 5001 (spec_Upper_m x h)) rfl rfl (SVs.imp_refl _) (fun _ => rfl) rfl rfl rfl fun _ _ => ?_
  refine RJ_auto TT_ok rfl ?_
  refine RJ_C TT_ok (Con.sw 901 7211 (Con.sw 902 7212 (Con.sw 903 7213 (toCluster_g x h)))) rfl rfl (SVs.imp_refl _) (fun _ => rfl) rfl rfl rfl fun _ _ => ?_
  refine RJ_auto TT_ok rfl ?_
  refine RJ_C TT_ok (Con.sw 900 5002 (impl_Upper_m x h)) rfl rfl (SVs.imp_refl _) (fun _ => rfl) rfl rfl rfl fun _ _ => ?_
  refine RJ_auto TT_ok rfl ?_
  refine RJ_Q TT_ok (eqInt64S_q _ h3) rfl rfl rfl rfl rfl ?_
  refine T_cond rfl (fun e => by cases e) (fun _ => ?_)
  refine T_auto TT_ok rfl ?_
  refine T_drawA TT_ok [] rfl rfl fun B0 H0 => ?_
  refine DJ_C 2 (Con.sw 901 7241 (Con.sw 902 7242 (Con.sw 903 7243 (toCluster_g x h)))) rfl rfl rfl (SVs.imp_refl _) (fun _ => rfl) rfl rfl rfl fun _ _ => ?_
  refine DJ_Q1 3 (eqCluster_g x h) rfl rfl rfl rfl rfl ?_
  refine DJ_on TT_ok rfl ?_
  refine DJ_endA TT_ok rfl ?_
  refine T_cond rfl (fun e => by cases e) (fun _ => ?_)
  refine T_auto TT_ok rfl ?_
  refine RJ_C TT_ok (Con.sw 901 7211 (Con.sw 902 7212 (Con.sw 903 7213 (markCluster_g x h 1 (by decide) hM)))) rfl rfl (SVs.imp_refl _) (fun _ => rfl) rfl rfl rfl fun _ _ => ?_
  refine RJ_auto TT_ok rfl ?_
  refine RJ_Q TT_ok (eqInt64S_q _ h3) rfl rfl rfl rfl rfl ?_
  refine T_cond rfl (fun e => by rw [hN] at e; cases e) (fun _ => ?_)
  refine T_auto TT_ok rfl ?_
  refine RJ_C TT_ok (Con.sw 900 5002 (markInt64S_w _ h3 1 (by decide) (by decide))) rfl rfl (SVs.imp_refl _) (fun _ => rfl) rfl rfl rfl fun _ _ => ?_
  refine RJ_auto TT_ok rfl ?_
  refine RJ_Q TT_ok (heldInt64S_w _ h3 1 (by decide) (by decide)) rfl rfl rfl rfl rfl ?_
  refine T_condD rfl (fun e => by omega) (fun _ => ?_)
  refine T_auto TT_ok rfl ?_
  refine T_condN rfl (fun e => absurd rfl e) (fun _ => ?_)
  refine T_auto TT_ok rfl ?_
  refine RJ_C TT_ok (Con.sw 901 7551 (Con.sw 902 7552 (Con.sw 903 7553 (toCluster_g x h)))) rfl rfl (SVs.imp_refl _) (fun _ => rfl) rfl rfl rfl fun _ _ => ?_
  refine RJ_auto TT_ok rfl ?_
  refine RJ_C TT_ok (Con.sw 900 5003 (impl_Upper_m x h)) rfl rfl (SVs.imp_refl _) (fun _ => rfl) rfl rfl rfl fun _ _ => ?_
  refine RJ_auto TT_ok rfl ?_
  refine RJ_Q TT_ok (eqInt64S_q _ h3) rfl rfl rfl rfl rfl ?_
  refine T_cond rfl (fun e => by cases e) (fun _ => ?_)
  refine T_auto TT_ok rfl ?_
  refine RJ_Q TT_ok (heldInt64S_w _ h3 1 (by decide) (by decide)) rfl rfl rfl rfl rfl ?_
  refine T_condD rfl (fun e => by omega) (fun _ => ?_)
  refine T_auto TT_ok rfl ?_
  refine T_condN rfl (fun e => absurd rfl e) (fun _ => ?_)
  refine T_auto TT_ok rfl ?_
  exact T_ansB TT_ok [(2, none)] rfl rfl (rfl)
theorem exactCells_q (x : GCluster) (r0 : Int) (hb : D.bds maxL (cCluster x)) : Ans Tryz.prog 7 [] [vR (cCluster x), vI r0] [] (vB true) := by
  refine con_enter Tryz.func7 rfl rfl rfl fun B0 r_ D_ w0 => ?_
  refine T_auto TT_ok rfl ?_
  refine RJ_Q TT_ok (szCluster_g _ hb _ (by decide) (by decide)) rfl rfl rfl rfl rfl ?_
  refine T_condD rfl (fun e => ?_) (fun e => ?_)
  · refine T_auto TT_ok rfl ?_
    exact T_ansB TT_ok [(4, none)] rfl rfl (rfl)
  have h := small_of e
  have hM : (1 : Int) + (sumW mPlace x.places : Nat) + (sumW mMachine x.machines : Nat) + (sumW mTx x.txs : Nat) ≤ 1000000000000 := marks_of e
  have hN : decide ((1 : Int) + (sumW mPlace x.places : Nat) + (sumW mMachine x.machines : Nat) + (sumW mTx x.txs : Nat) < 0) = false := decide_eq_false (by omega)
  have h3 : (cellsM x r0).1.length ≤ 1048576 := by
    unfold cellsM; split
    · exact cellsOf_le (bdM_any h _) r0
    · exact Nat.zero_le _
  clear e
  refine T_auto TT_ok rfl ?_
  refine RJ_C TT_ok (Con.sw 901 7201 (Con.sw 902 7202 (Con.sw 903 7203 (toCluster_g x h)))) rfl rfl (SVs.imp_refl _) (fun _ => rfl) rfl rfl rfl fun _ _ => ?_
  refine RJ_auto TT_ok rfl ?_
  refine RJ_C TT_ok (Con.sw 900 5001 (spec_Cells_m x h r0)) rfl rfl (SVs.imp_refl _) (fun _ => rfl) rfl rfl rfl fun _ _ => ?_
  refine RJ_auto TT_ok rfl ?_
  refine RJ_C TT_ok (Con.sw 901 7211 (Con.sw 902 7212 (Con.sw 903 7213 (toCluster_g x h)))) rfl rfl (SVs.imp_refl _) (fun _ => rfl) rfl rfl rfl fun _ _ => ?_
  refine RJ_auto TT_ok rfl ?_
  refine RJ_C TT_ok (Con.sw 900 5002 (impl_Cells_m x h r0)) rfl rfl (SVs.imp_refl _) (fun _ => rfl) rfl rfl rfl fun _ _ => ?_
  refine RJ_auto TT_ok rfl ?_
  refine RJ_Q TT_ok (eqCellS_q _ h3) rfl rfl rfl rfl rfl ?_
  refine T_cond rfl (fun e => by simp at e) (fun _ => ?_)
  refine T_auto TT_ok rfl ?_
  refine T_drawA TT_ok [] rfl rfl fun B0 H0 => ?_
  refine DJ_C 2 (Con.sw 901 7241 (Con.sw 902 7242 (Con.sw 903 7243 (toCluster_g x h)))) rfl rfl rfl (SVs.imp_refl _) (fun _ => rfl) rfl rfl rfl fun _ _ => ?_
  refine DJ_Q1 3 (eqCluster_g x h) rfl rfl rfl rfl rfl ?_
  refine DJ_on TT_ok rfl ?_
  refine DJ_endA TT_ok rfl ?_
  refine T_cond rfl (fun e => by cases e) (fun _ => ?_)
  refine T_auto TT_ok rfl ?_
  refine RJ_C TT_ok (Con.sw 901 7211 (Con.sw 902 7212 (Con.sw 903 7213 (markCluster_g x h 1 (by decide) hM)))) rfl rfl (SVs.imp_refl _) (fun _ => rfl) rfl rfl rfl fun _ _ => ?_
  refine RJ_auto TT_ok rfl ?_
  refine RJ_Q TT_ok (eqCellS_q _ h3) rfl rfl rfl rfl rfl ?_
  refine T_cond rfl (fun e => by rw [hN] at e; simp at e) (fun _ => ?_)
  refine T_auto TT_ok rfl ?_
  refine RJ_C TT_ok (Con.sw 900 5002 (markCellS_w _ h3 1 (by decide) (by decide))) rfl rfl (SVs.imp_refl _) (fun _ => rfl) rfl rfl rfl fun _ _ => ?_
  refine RJ_auto TT_ok rfl ?_
  refine RJ_Q TT_ok (heldCellS_w _ h3 1 (by decide) (by decide)) rfl rfl rfl rfl rfl ?_
  refine T_condD rfl (fun e => by omega) (fun _ => ?_)
  refine T_auto TT_ok rfl ?_
  refine T_condN rfl (fun e => absurd rfl e) (fun _ => ?_)
  refine T_auto TT_ok rfl ?_
  refine RJ_C TT_ok (Con.sw 901 7551 (Con.sw 902 7552 (Con.sw 903 7553 (toCluster_g x h)))) rfl rfl (SVs.imp_refl _) (fun _ => rfl) rfl rfl rfl fun _ _ => ?_
  refine RJ_auto TT_ok rfl ?_
  refine RJ_C TT_ok (Con.sw 900 5003 (impl_Cells_m x h r0)) rfl rfl (SVs.imp_refl _) (fun _ => rfl) rfl rfl rfl fun _ _ => ?_
  refine RJ_auto TT_ok rfl ?_
  refine RJ_Q TT_ok (eqCellS_q _ h3) rfl rfl rfl rfl rfl ?_
  refine T_cond rfl (fun e => by simp at e) (fun _ => ?_)
  refine T_auto TT_ok rfl ?_
  refine RJ_Q TT_ok (heldCellS_w _ h3 1 (by decide) (by decide)) rfl rfl rfl rfl rfl ?_
  refine T_condD rfl (fun e => by omega) (fun _ => ?_)
  refine T_auto TT_ok rfl ?_
  refine T_condN rfl (fun e => absurd rfl e) (fun _ => ?_)
  refine T_auto TT_ok rfl ?_
  exact T_ansB TT_ok [(4, none)] rfl rfl (rfl)
end Go.Proofs.YtiegllklalplnaaGreat
