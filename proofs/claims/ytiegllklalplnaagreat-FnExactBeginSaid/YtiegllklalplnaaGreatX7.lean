
/-
  The laws of Kill, Find, Begin.
-/
import Derived.Test.YtiegllklalplnaaGreatX6
import Derived.Test.YtiegllklalplnaaGreatP19
namespace Go.Proofs.YtiegllklalplnaaGreat
open Go Go.RowKit
set_option linter.unusedVariables false
set_option linter.unusedSimpArgs false
set_option maxRecDepth 4000

theorem sumW_set {α : Type} {w : α → Nat} {z : α} (hz : w z = 0) : ∀ (xs : List α) (k : Nat), sumW w (xs.set k z) ≤ sumW w xs
  | [], _ => Nat.le_refl _
  | x :: r, 0 => by simp [sumW, hz]
  | x :: r, k + 1 => by simp only [List.set_cons_succ, sumW]; have := sumW_set hz r k; omega
theorem kill_w (c : GCluster) (m0 : Int) : wCluster (killM c m0).1 ≤ wCluster c := by
  unfold killM
  split
  · unfold wCluster wL
    have h1 : (killL c.machines m0).length = c.machines.length := by unfold killL; split <;> simp
    have h2 : sumW wMachine (killL c.machines m0) ≤ sumW wMachine c.machines := by
      unfold killL; split
      · exact sumW_set (z := GMachine.z) rfl _ _
      · exact Nat.le_refl _
    show c.places.length + sumW wPlace c.places + ((killL c.machines m0).length + sumW wMachine (killL c.machines m0)) + (c.txs.length + sumW wTx c.txs) ≤ _
    omega
  · exact Nat.zero_le _
theorem small_w {x : GCluster} (e : ¬ szI 1048576 (wCluster x) < 0) : wCluster x ≤ 1048576 := by have := (szI_in e).2.2.2; omega
theorem tx_w {c : GCluster} (h : wCluster c ≤ 1048576) (i : Nat) : wTx (c.txs.getD i GTx.z) ≤ 1048576 := by
  by_cases hi : i < c.txs.length
  · have := sumW_get (w := wTx) (z := GTx.z) hi
    unfold wCluster wL at h
    omega
  · have e : c.txs.getD i GTx.z = GTx.z := by simp [Nat.le_of_not_lt hi]
    rw [e]; exact Nat.zero_le _
theorem find_w {c : GCluster} (h : wCluster c ≤ 1048576) (id : Int) : wTx (findM c id).1 ≤ 1048576 := by
  unfold findM
  split
  · exact tx_w h _
  · exact Nat.zero_le _
theorem begin_bd {c : GCluster} (h : D.bds bigN (cCluster c)) (id home : Int) : D.bds bigN (cCluster (beginM c id home).1) := by
  unfold beginM
  split
  · rename_i hok
    cases begB2 c id with
    | true => exact h
    | false =>
      cases begB3 c home with
      | true => exact h
      | false =>
        have h3 : c.txs.length ≤ 60 := hok.1.2.2.2
        refine ⟨trivial, trivial, h.2.2.1, h.2.2.2.1, ⟨by simp [bigN]; omega, fun i hi => ?_⟩, trivial, trivial⟩
        by_cases c1 : i < c.txs.length
        · have := h.2.2.2.2.1.2 i c1
          simpa [List.getElem?_append_left c1] using this
        · have : i = c.txs.length := by simp at hi; omega
          subst this
          have e : (c.txs ++ [newT id home]).getD c.txs.length GTx.z = newT id home := by simp
          show D.bds bigN (cTx ((c.txs ++ [newT id home]).getD c.txs.length GTx.z))
          rw [e]
          exact bd_Tx _ (Nat.zero_le _)
  · exact bd_Cluster _ (Nat.zero_le _)
theorem begin_mk {c : GCluster} (h : wCluster c ≤ 1048576) (id home : Int) : (1 : Int) + (sumW mPlace (beginM c id home).1.places : Nat) + (sumW mMachine (beginM c id home).1.machines : Nat) + (sumW mTx (beginM c id home).1.txs : Nat) ≤ 1000000000000 := by
  have h1 := mCluster_le c
  unfold mCluster at h1
  unfold beginM
  split
  · cases begB2 c id with
    | true => exact marks_le h
    | false =>
      cases begB3 c home with
      | true => exact marks_le h
      | false =>
        show (1 : Int) + (sumW mPlace c.places : Nat) + (sumW mMachine c.machines : Nat) + (sumW mTx (c.txs ++ [newT id home]) : Nat) ≤ 1000000000000
        rw [sumW_append]
        show (1 : Int) + (sumW mPlace c.places : Nat) + (sumW mMachine c.machines : Nat) + (sumW mTx c.txs + 5 : Nat) ≤ 1000000000000
        omega
  · decide
theorem exactKill_q (x : GCluster) (a : Int) (hb : D.bds maxL (cCluster x)) : Ans Tryz.prog 10 [] [vR (cCluster x), vI a] [] (vB true) := by
  refine con_enter Tryz.func10 rfl rfl rfl fun B0 r_ D_ w0 => ?_
  refine T_auto TT_ok rfl ?_
  refine RJ_Q TT_ok (szCluster_g _ hb _ (by decide) (by decide)) rfl rfl rfl rfl rfl ?_
  refine T_condD rfl (fun e => ?_) (fun e => ?_)
  · refine T_auto TT_ok rfl ?_
    exact T_ansB TT_ok [(4, none)] rfl rfl (rfl)
  have h := small_of e
  have hM : (1 : Int) + (sumW mPlace x.places : Nat) + (sumW mMachine x.machines : Nat) + (sumW mTx x.txs : Nat) ≤ 1000000000000 := marks_of e
  have hN : decide ((1 : Int) + (sumW mPlace x.places : Nat) + (sumW mMachine x.machines : Nat) + (sumW mTx x.txs : Nat) < 0) = false := decide_eq_false (by omega)
  have hw : wCluster (killM x a).1 ≤ 1048576 := Nat.le_trans (kill_w x a) (small_w e)
  have h3 := bd_Cluster _ hw
  have hR := marks_le hw
  clear e
  refine T_auto TT_ok rfl ?_
  refine RJ_C TT_ok (Con.sw 901 7201 (Con.sw 902 7202 (Con.sw 903 7203 (toCluster_g x h)))) rfl rfl (SVs.imp_refl _) (fun _ => rfl) rfl rfl rfl fun _ _ => ?_
  refine RJ_auto TT_ok rfl ?_
  refine RJ_C TT_ok (Con.sw 901 50011 (Con.sw 902 50012 (Con.sw 903 50013 (spec_Kill_m x h a (l8Copy_m x h))))) rfl rfl (SVs.imp_refl _) (fun _ => rfl) rfl rfl rfl fun _ _ => ?_
  refine RJ_auto TT_ok rfl ?_
  refine RJ_C TT_ok (Con.sw 901 7211 (Con.sw 902 7212 (Con.sw 903 7213 (toCluster_g x h)))) rfl rfl (SVs.imp_refl _) (fun _ => rfl) rfl rfl rfl fun _ _ => ?_
  refine RJ_auto TT_ok rfl ?_
  refine RJ_C TT_ok (Con.sw 901 50021 (Con.sw 902 50022 (Con.sw 903 50023 (impl_Kill_m x h a (cloneCluster_m x h))))) rfl rfl (SVs.imp_refl _) (fun _ => rfl) rfl rfl rfl fun _ _ => ?_
  refine RJ_auto TT_ok rfl ?_
  refine RJ_Q TT_ok (eqCluster_g _ h3) rfl rfl rfl rfl rfl ?_
  refine T_cond rfl (fun e => by simp at e) (fun _ => ?_)
  refine T_auto TT_ok rfl ?_
  refine T_drawA TT_ok [] rfl rfl fun B0 H0 => ?_
  refine DJ_C 2 (Con.sw 901 7241 (Con.sw 902 7242 (Con.sw 903 7243 (toCluster_g x h)))) rfl rfl rfl (SVs.imp_refl _) (fun _ => rfl) rfl rfl rfl fun _ _ => ?_
  refine DJ_Q1 3 (eqCluster_g x h) rfl rfl rfl rfl rfl ?_
  refine DJ_on TT_ok rfl ?_
  refine DJ_endA TT_ok rfl ?_
  refine T_cond rfl (fun e => by cases e) (fun _ => ?_)
  refine T_auto TT_ok rfl ?_
  refine RJ_C TT_ok (Con.sw 901 7211 (Con.sw 902 7212 (Con.sw 903 7213 (markCluster_g x h 1 (by decide) hM)))) rfl rfl (SVs.imp_refl _) (fun _ => rfl) rfl rfl rfl fun _ _ => ?_
  refine RJ_auto TT_ok rfl ?_
  refine RJ_Q TT_ok (eqCluster_g _ h3) rfl rfl rfl rfl rfl ?_
  refine T_cond rfl (fun e => by rw [hN] at e; simp at e) (fun _ => ?_)
  refine T_auto TT_ok rfl ?_
  refine RJ_C TT_ok (Con.sw 901 50021 (Con.sw 902 50022 (Con.sw 903 50023 (markCluster_g _ h3 1 (by decide) hR)))) rfl rfl (SVs.imp_refl _) (fun _ => rfl) rfl rfl rfl fun _ _ => ?_
  refine RJ_auto TT_ok rfl ?_
  refine RJ_Q TT_ok (heldCluster_g _ h3 1 (by decide) hR) rfl rfl rfl rfl rfl ?_
  refine T_condD rfl (fun e => by omega) (fun _ => ?_)
  refine T_auto TT_ok rfl ?_
  refine T_condN rfl (fun e => absurd rfl e) (fun _ => ?_)
  refine T_auto TT_ok rfl ?_
  refine RJ_C TT_ok (Con.sw 901 7551 (Con.sw 902 7552 (Con.sw 903 7553 (toCluster_g x h)))) rfl rfl (SVs.imp_refl _) (fun _ => rfl) rfl rfl rfl fun _ _ => ?_
  refine RJ_auto TT_ok rfl ?_
  refine RJ_C TT_ok (Con.sw 901 50031 (Con.sw 902 50032 (Con.sw 903 50033 (impl_Kill_m x h a (cloneCluster_m x h))))) rfl rfl (SVs.imp_refl _) (fun _ => rfl) rfl rfl rfl fun _ _ => ?_
  refine RJ_auto TT_ok rfl ?_
  refine RJ_Q TT_ok (eqCluster_g _ h3) rfl rfl rfl rfl rfl ?_
  refine T_cond rfl (fun e => by simp at e) (fun _ => ?_)
  refine T_auto TT_ok rfl ?_
  refine RJ_Q TT_ok (heldCluster_g _ h3 1 (by decide) hR) rfl rfl rfl rfl rfl ?_
  refine T_condD rfl (fun e => by omega) (fun _ => ?_)
  refine T_auto TT_ok rfl ?_
  refine T_condN rfl (fun e => absurd rfl e) (fun _ => ?_)
  refine T_auto TT_ok rfl ?_
  exact T_ansB TT_ok [(4, none)] rfl rfl (rfl)
theorem exactFind_q (x : GCluster) (a : Int) (hb : D.bds maxL (cCluster x)) : Ans Tryz.prog 9 [] [vR (cCluster x), vI a] [] (vB true) := by
  refine con_enter Tryz.func9 rfl rfl rfl fun B0 r_ D_ w0 => ?_
  refine T_auto TT_ok rfl ?_
  refine RJ_Q TT_ok (szCluster_g _ hb _ (by decide) (by decide)) rfl rfl rfl rfl rfl ?_
  refine T_condD rfl (fun e => ?_) (fun e => ?_)
  · refine T_auto TT_ok rfl ?_
    exact T_ansB TT_ok [(4, none)] rfl rfl (rfl)
  have h := small_of e
  have hM : (1 : Int) + (sumW mPlace x.places : Nat) + (sumW mMachine x.machines : Nat) + (sumW mTx x.txs : Nat) ≤ 1000000000000 := marks_of e
  have hN : decide ((1 : Int) + (sumW mPlace x.places : Nat) + (sumW mMachine x.machines : Nat) + (sumW mTx x.txs : Nat) < 0) = false := decide_eq_false (by omega)
  have hw := find_w (small_w e) a
  have h3 := bd_Tx _ hw
  have hR : (1 : Int) + 5 * (findM x a).1.reads.length + 5 * (findM x a).1.sets.length ≤ 1000000000000 := by unfold wTx at hw; omega
  clear e
  refine T_auto TT_ok rfl ?_
  refine RJ_C TT_ok (Con.sw 901 7201 (Con.sw 902 7202 (Con.sw 903 7203 (toCluster_g x h)))) rfl rfl (SVs.imp_refl _) (fun _ => rfl) rfl rfl rfl fun _ _ => ?_
  refine RJ_auto TT_ok rfl ?_
  refine RJ_C TT_ok (Con.sw 901 50011 (Con.sw 902 50012 (spec_Find_m x h a))) rfl rfl (SVs.imp_refl _) (fun _ => rfl) rfl rfl rfl fun _ _ => ?_
  refine RJ_auto TT_ok rfl ?_
  refine RJ_C TT_ok (Con.sw 901 7211 (Con.sw 902 7212 (Con.sw 903 7213 (toCluster_g x h)))) rfl rfl (SVs.imp_refl _) (fun _ => rfl) rfl rfl rfl fun _ _ => ?_
  refine RJ_auto TT_ok rfl ?_
  refine RJ_C TT_ok (Con.sw 901 50021 (Con.sw 902 50022 (impl_Find_m x h a))) rfl rfl (SVs.imp_refl _) (fun _ => rfl) rfl rfl rfl fun _ _ => ?_
  refine RJ_auto TT_ok rfl ?_
  refine RJ_Q TT_ok (eqTx_g _ h3) rfl rfl rfl rfl rfl ?_
  refine T_cond rfl (fun e => by simp at e) (fun _ => ?_)
  refine T_auto TT_ok rfl ?_
  refine T_drawA TT_ok [] rfl rfl fun B0 H0 => ?_
  refine DJ_C 2 (Con.sw 901 7241 (Con.sw 902 7242 (Con.sw 903 7243 (toCluster_g x h)))) rfl rfl rfl (SVs.imp_refl _) (fun _ => rfl) rfl rfl rfl fun _ _ => ?_
  refine DJ_Q1 3 (eqCluster_g x h) rfl rfl rfl rfl rfl ?_
  refine DJ_on TT_ok rfl ?_
  refine DJ_endA TT_ok rfl ?_
  refine T_cond rfl (fun e => by cases e) (fun _ => ?_)
  refine T_auto TT_ok rfl ?_
  refine RJ_C TT_ok (Con.sw 901 7211 (Con.sw 902 7212 (Con.sw 903 7213 (markCluster_g x h 1 (by decide) hM)))) rfl rfl (SVs.imp_refl _) (fun _ => rfl) rfl rfl rfl fun _ _ => ?_
  refine RJ_auto TT_ok rfl ?_
  refine RJ_Q TT_ok (eqTx_g _ h3) rfl rfl rfl rfl rfl ?_
  refine T_cond rfl (fun e => by rw [hN] at e; simp at e) (fun _ => ?_)
  refine T_auto TT_ok rfl ?_
  refine RJ_C TT_ok (Con.sw 901 50021 (Con.sw 902 50022 (markTx_g _ h3 1 (by decide) hR))) rfl rfl (SVs.imp_refl _) (fun _ => rfl) rfl rfl rfl fun _ _ => ?_
  refine RJ_auto TT_ok rfl ?_
  refine RJ_Q TT_ok (heldTx_g _ h3 1 (by decide) hR) rfl rfl rfl rfl rfl ?_
  refine T_condD rfl (fun e => by omega) (fun _ => ?_)
  refine T_auto TT_ok rfl ?_
  refine T_condN rfl (fun e => absurd rfl e) (fun _ => ?_)
  refine T_auto TT_ok rfl ?_
  refine RJ_C TT_ok (Con.sw 901 7551 (Con.sw 902 7552 (Con.sw 903 7553 (toCluster_g x h)))) rfl rfl (SVs.imp_refl _) (fun _ => rfl) rfl rfl rfl fun _ _ => ?_
  refine RJ_auto TT_ok rfl ?_
  refine RJ_C TT_ok (Con.sw 901 50031 (Con.sw 902 50032 (impl_Find_m x h a))) rfl rfl (SVs.imp_refl _) (fun _ => rfl) rfl rfl rfl fun _ _ => ?_
  refine RJ_auto TT_ok rfl ?_
  refine RJ_Q TT_ok (eqTx_g _ h3) rfl rfl rfl rfl rfl ?_
  refine T_cond rfl (fun e => by simp at e) (fun _ => ?_)
  refine T_auto TT_ok rfl ?_
  refine RJ_Q TT_ok (heldTx_g _ h3 1 (by decide) hR) rfl rfl rfl rfl rfl ?_
  refine T_condD rfl (fun e => by omega) (fun _ => ?_)
  refine T_auto TT_ok rfl ?_
  refine T_condN rfl (fun e => absurd rfl e) (fun _ => ?_)
  refine T_auto TT_ok rfl ?_
  exact T_ansB TT_ok [(4, none)] rfl rfl (rfl)
theorem exactBegin_q (x : GCluster) (a : Int) (b : Int) (hb : D.bds maxL (cCluster x)) : Ans Tryz.prog 11 [] [vR (cCluster x), vI a, vI b] [] (vB true) := by
  refine con_enter Tryz.func11 rfl rfl rfl fun B0 r_ D_ w0 => ?_
  refine T_auto TT_ok rfl ?_
  refine RJ_Q TT_ok (szCluster_g _ hb _ (by decide) (by decide)) rfl rfl rfl rfl rfl ?_
  refine T_condD rfl (fun e => ?_) (fun e => ?_)
  · refine T_auto TT_ok rfl ?_
    exact T_ansB TT_ok [(6, none)] rfl rfl (rfl)
  have h := small_of e
  have hM : (1 : Int) + (sumW mPlace x.places : Nat) + (sumW mMachine x.machines : Nat) + (sumW mTx x.txs : Nat) ≤ 1000000000000 := marks_of e
  have hN : decide ((1 : Int) + (sumW mPlace x.places : Nat) + (sumW mMachine x.machines : Nat) + (sumW mTx x.txs : Nat) < 0) = false := decide_eq_false (by omega)
  have h3 := begin_bd h a b
  have hR := begin_mk (small_w e) a b
  clear e
  refine T_auto TT_ok rfl ?_
  refine RJ_C TT_ok (Con.sw 901 7201 (Con.sw 902 7202 (Con.sw 903 7203 (toCluster_g x h)))) rfl rfl (SVs.imp_refl _) (fun _ => rfl) rfl rfl rfl fun _ _ => ?_
  refine RJ_auto TT_ok rfl ?_
  refine RJ_C TT_ok (Con.sw 901 50011 (Con.sw 902 50012 (Con.sw 903 50013 (spec_Begin_m x h a b)))) rfl rfl (SVs.imp_refl _) (fun _ => rfl) rfl rfl rfl fun _ _ => ?_
  refine RJ_auto TT_ok rfl ?_
  refine RJ_C TT_ok (Con.sw 901 7211 (Con.sw 902 7212 (Con.sw 903 7213 (toCluster_g x h)))) rfl rfl (SVs.imp_refl _) (fun _ => rfl) rfl rfl rfl fun _ _ => ?_
  refine RJ_auto TT_ok rfl ?_
  refine RJ_C TT_ok (Con.sw 901 50021 (Con.sw 902 50022 (Con.sw 903 50023 (impl_Begin_m x h a b)))) rfl rfl (SVs.imp_refl _) (fun _ => rfl) rfl rfl rfl fun _ _ => ?_
  refine RJ_auto TT_ok rfl ?_
  refine RJ_Q TT_ok (eqCluster_g _ h3) rfl rfl rfl rfl rfl ?_
  refine T_cond rfl (fun e => by simp at e) (fun _ => ?_)
  refine T_auto TT_ok rfl ?_
  refine T_drawA TT_ok [] rfl rfl fun B0 H0 => ?_
  refine DJ_C 2 (Con.sw 901 7241 (Con.sw 902 7242 (Con.sw 903 7243 (toCluster_g x h)))) rfl rfl rfl (SVs.imp_refl _) (fun _ => rfl) rfl rfl rfl fun _ _ => ?_
  refine DJ_Q1 3 (eqCluster_g x h) rfl rfl rfl rfl rfl ?_
  refine DJ_on TT_ok rfl ?_
  refine DJ_endA TT_ok rfl ?_
  refine T_cond rfl (fun e => by cases e) (fun _ => ?_)
  refine T_auto TT_ok rfl ?_
  refine RJ_C TT_ok (Con.sw 901 7211 (Con.sw 902 7212 (Con.sw 903 7213 (markCluster_g x h 1 (by decide) hM)))) rfl rfl (SVs.imp_refl _) (fun _ => rfl) rfl rfl rfl fun _ _ => ?_
  refine RJ_auto TT_ok rfl ?_
  refine RJ_Q TT_ok (eqCluster_g _ h3) rfl rfl rfl rfl rfl ?_
  refine T_cond rfl (fun e => by rw [hN] at e; simp at e) (fun _ => ?_)
  refine T_auto TT_ok rfl ?_
  refine RJ_C TT_ok (Con.sw 901 50021 (Con.sw 902 50022 (Con.sw 903 50023 (markCluster_g _ h3 1 (by decide) hR)))) rfl rfl (SVs.imp_refl _) (fun _ => rfl) rfl rfl rfl fun _ _ => ?_
  refine RJ_auto TT_ok rfl ?_
  refine RJ_Q TT_ok (heldCluster_g _ h3 1 (by decide) hR) rfl rfl rfl rfl rfl ?_
  refine T_condD rfl (fun e => by omega) (fun _ => ?_)
  refine T_auto TT_ok rfl ?_
  refine T_condN rfl (fun e => absurd rfl e) (fun _ => ?_)
  refine T_auto TT_ok rfl ?_
  refine RJ_C TT_ok (Con.sw 901 7551 (Con.sw 902 7552 (Con.sw 903 7553 (toCluster_g x h)))) rfl rfl (SVs.imp_refl _) (fun _ => rfl) rfl rfl rfl fun _ _ => ?_
  refine RJ_auto TT_ok rfl ?_
  refine RJ_C TT_ok (Con.sw 901 50031 (Con.sw 902 50032 (Con.sw 903 50033 (impl_Begin_m x h a b)))) rfl rfl (SVs.imp_refl _) (fun _ => rfl) rfl rfl rfl fun _ _ => ?_
  refine RJ_auto TT_ok rfl ?_
  refine RJ_Q TT_ok (eqCluster_g _ h3) rfl rfl rfl rfl rfl ?_
  refine T_cond rfl (fun e => by simp at e) (fun _ => ?_)
  refine T_auto TT_ok rfl ?_
  refine RJ_Q TT_ok (heldCluster_g _ h3 1 (by decide) hR) rfl rfl rfl rfl rfl ?_
  refine T_condD rfl (fun e => by omega) (fun _ => ?_)
  refine T_auto TT_ok rfl ?_
  refine T_condN rfl (fun e => absurd rfl e) (fun _ => ?_)
  refine T_auto TT_ok rfl ?_
  exact T_ansB TT_ok [(6, none)] rfl rfl (rfl)
end Go.Proofs.YtiegllklalplnaaGreat
