
/-
  The law of NewCluster.
-/
import Derived.Test.YtiegllklalplnaaX4
import Derived.Test.YtiegllklalplnaaP27
namespace Go.Proofs.Ytiegllklalplnaa
open Go Go.RowKit
set_option linter.unusedVariables false
set_option linter.unusedSimpArgs false
set_option maxRecDepth 4000

theorem sumW_all {α : Type} {w : α → Nat} {k : Nat} : ∀ {xs : List α}, (∀ x ∈ xs, w x ≤ k) → sumW w xs ≤ k * xs.length
  | [], _ => Nat.zero_le _
  | x :: r, h => by
    have h1 := h x (by simp)
    have h2 := sumW_all (w := w) (k := k) (xs := r) fun y hy => h y (by simp [hy])
    simp only [sumW, List.length_cons, Nat.mul_add, Nat.mul_one]
    omega
theorem newC_w (a b : Int) : wCluster (newClusterM a b).1 ≤ 1048576 := by
  cases h : (bif !inB a 1 6 then true else !inB b 1 8) with
  | true => rw [show newClusterM a b = (GCluster.z, false) from by unfold newClusterM; rw [h]; rfl]; decide
  | false =>
    have h1 : inB a 1 6 = true ∧ inB b 1 8 = true := by
      cases c1 : inB a 1 6 <;> cases c2 : inB b 1 8 <;> simp [c1, c2] at h ⊢
    have h2 := inB_iff.1 h1.1
    have h3 := inB_iff.1 h1.2
    rw [show newClusterM a b = (newC a.toNat b.toNat, true) from by unfold newClusterM; rw [h]; rfl]
    have hn : a.toNat ≤ 6 := by omega
    have hm : b.toNat ≤ 8 := by omega
    generalize a.toNat = n at hn
    generalize b.toNat = m at hm
    have p1 : (spreadL n m).length = n := by simp [spreadL]
    have p2 : sumW wPlace (spreadL n m) ≤ 3 * (spreadL n m).length := sumW_all fun x hx => by
      unfold spreadL at hx
      obtain ⟨r, _, rfl⟩ := List.mem_map.1 hx
      show (spL m r).length ≤ 3
      rw [spL_len]; omega
    have m1 : ((List.range m).map (machM n m)).length = m := by simp
    have m2 : sumW wMachine ((List.range m).map (machM n m)) ≤ 42 * ((List.range m).map (machM n m)).length := sumW_all fun x hx => by
      obtain ⟨i, _, rfl⟩ := List.mem_map.1 hx
      have c1 := copiesL_le m (i : Int) n
      have c2 : sumW wCopy (copiesL m i n) ≤ 6 * (copiesL m i n).length := sumW_all fun y hy => by
        unfold copiesL at hy
        obtain ⟨r, _, rfl⟩ := List.mem_map.1 hy
        exact Nat.le_refl 6
      show (copiesL m i n).length + sumW wCopy (copiesL m i n) + 0 + 0 ≤ 42
      omega
    show (spreadL n m).length + sumW wPlace (spreadL n m) + (((List.range m).map (machM n m)).length + sumW wMachine ((List.range m).map (machM n m))) + 0 ≤ 1048576
    omega
theorem newC_mk (a b : Int) : (1 : Int) + (sumW mPlace (newClusterM a b).1.places : Nat) + (sumW mMachine (newClusterM a b).1.machines : Nat) + (sumW mTx (newClusterM a b).1.txs : Nat) ≤ 1000000000000 := by
  have h1 := newC_w a b
  have h2 := mCluster_le (newClusterM a b).1
  unfold mCluster at h2
  omega
theorem exactNewCluster_q (a b : Int) : Ans Try.prog 5 [] [vI a, vI b] [] (vB true) := by
  have h3 := bd_Cluster _ (newC_w a b)
  have hR := newC_mk a b
  refine con_enter Try.func5 rfl rfl rfl fun B0 r_ D_ w0 => ?_
  refine T_auto TT_ok rfl ?_
  refine RJ_C TT_ok (Con.sw 901 50011 (Con.sw 902 50012 (Con.sw 903 50013 (spec_NewCluster_m a b)))) rfl rfl (SVs.imp_refl _) (fun _ => rfl) rfl rfl rfl fun _ _ => ?_
  refine RJ_auto TT_ok rfl ?_
  refine RJ_C TT_ok (Con.sw 901 50021 (Con.sw 902 50022 (Con.sw 903 50023 (impl_NewCluster_m a b)))) rfl rfl (SVs.imp_refl _) (fun _ => rfl) rfl rfl rfl fun _ _ => ?_
  refine RJ_auto TT_ok rfl ?_
  refine RJ_Q TT_ok (eqCluster_g _ h3) rfl rfl rfl rfl rfl ?_
  refine T_cond rfl (fun e => by simp at e) (fun _ => ?_)
  refine T_auto TT_ok rfl ?_
  refine RJ_C TT_ok (Con.sw 901 50021 (Con.sw 902 50022 (Con.sw 903 50023 (markCluster_g _ h3 1 (by decide) hR)))) rfl rfl (SVs.imp_refl _) (fun _ => rfl) rfl rfl rfl fun _ _ => ?_
  refine RJ_auto TT_ok rfl ?_
  refine RJ_Q TT_ok (heldCluster_g _ h3 1 (by decide) hR) rfl rfl rfl rfl rfl ?_
  refine T_condD rfl (fun e => by omega) (fun _ => ?_)
  refine T_auto TT_ok rfl ?_
  refine T_condN rfl (fun e => absurd rfl e) (fun _ => ?_)
  refine T_auto TT_ok rfl ?_
  refine RJ_C TT_ok (Con.sw 901 50031 (Con.sw 902 50032 (Con.sw 903 50033 (impl_NewCluster_m a b)))) rfl rfl (SVs.imp_refl _) (fun _ => rfl) rfl rfl rfl fun _ _ => ?_
  refine RJ_auto TT_ok rfl ?_
  refine RJ_Q TT_ok (eqCluster_g _ h3) rfl rfl rfl rfl rfl ?_
  refine T_cond rfl (fun e => by simp at e) (fun _ => ?_)
  refine T_auto TT_ok rfl ?_
  refine RJ_Q TT_ok (heldCluster_g _ h3 1 (by decide) hR) rfl rfl rfl rfl rfl ?_
  refine T_condD rfl (fun e => by omega) (fun _ => ?_)
  refine T_auto TT_ok rfl ?_
  refine T_condN rfl (fun e => absurd rfl e) (fun _ => ?_)
  refine T_auto TT_ok rfl ?_
  exact T_ansB TT_ok [(4, none)] rfl rfl (rfl)
end Go.Proofs.Ytiegllklalplnaa
