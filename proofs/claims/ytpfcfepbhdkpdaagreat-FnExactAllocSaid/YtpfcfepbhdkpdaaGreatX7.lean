
/-
  The laws of Kill, Find, Begin.
-/
import Derived.Test.YtpfcfepbhdkpdaaGreatX6
import Derived.Test.YtpfcfepbhdkpdaaGreatP19
namespace Go.Proofs.YtpfcfepbhdkpdaaGreat
open Go Go.RowKit
set_option linter.unusedVariables false
set_option linter.unusedSimpArgs false
set_option maxRecDepth 4000

theorem sumW_set {α : Type} {w : α → Nat} {z : α} (hz : w z = 0) : ∀ (xs : List α) (k : Nat), sumW w (xs.set k z) ≤ sumW w xs
  | [], _ => Nat.le_refl _
  | x :: r, 0 => by simp [sumW, hz]
  | x :: r, k + 1 => by simp only [List.set_cons_succ, sumW]; have := sumW_set hz r k; omega
theorem kill_w (c : GCluster) (m0 : Int) : wCluster (killM c m0).1 ≤ wCluster c := by
  unfold killM
  split
  · unfold wCluster wL
    have h1 : (killL c.machines m0).length = c.machines.length := by unfold killL; split <;> simp
    have h2 : sumW wMachine (killL c.machines m0) ≤ sumW wMachine c.machines := by
      unfold killL; split
      · exact sumW_set (z := GMachine.z) rfl _ _
      · exact Nat.le_refl _
    show c.places.length + sumW wPlace c.places + ((killL c.machines m0).length + sumW wMachine (killL c.machines m0)) + (c.txs.length + sumW wTx c.txs) ≤ _
    omega
  · exact Nat.zero_le _
theorem small_w {x : GCluster} (e : ¬ szI 1048576 (wCluster x) < 0) : wCluster x ≤ 1048576 := by have := (szI_in e).2.2.2; omega
theorem tx_w {c : GCluster} (h : wCluster c ≤ 1048576) (i : Nat) : wTx (c.txs.getD i GTx.z) ≤ 1048576 := by
  by_cases hi : i < c.txs.length
  · have := sumW_get (w := wTx) (z := GTx.z) hi
    unfold wCluster wL at h
    omega
  · have e : c.txs.getD i GTx.z = GTx.z := by simp [Nat.le_of_not_lt hi]
    rw [e]; exact Nat.zero_le _
theorem find_w {c : GCluster} (h : wCluster c ≤ 1048576) (id : Int) : wTx (findM c id).1 ≤ 1048576 := by
  unfold findM
  split
  · exact tx_w h _
  · exact Nat.zero_le _
theorem begin_bd {c : GCluster} (h : D.bds bigN (cCluster c)) (id home : Int) : D.bds bigN (cCluster (beginM c id home).1) := by
  unfold beginM
  split
  · rename_i hok
    cases begB2 c id with
    | true => exact h
    | false =>
      cases begB3 c home with
      | true => exact h
      | false =>
        have h3 : c.txs.length ≤ 60 := hok.1.2.2.2
        refine ⟨trivial, trivial, h.2.2.1, h.2.2.2.1, ⟨by simp [bigN]; omega, fun i hi => ?_⟩, trivial, trivial⟩
        by_cases c1 : i < c.txs.length
        · have := h.2.2.2.2.1.2 i c1
          simpa [List.getElem?_append_left c1] using this
        · have : i = c.txs.length := by simp at hi; omega
          subst this
          have e : (c.txs ++ [newT id home]).getD c.txs.length GTx.z = newT id home := by simp
          show D.bds bigN (cTx ((c.txs ++ [newT id home]).getD c.txs.length GTx.z))
          rw [e]
          exact bd_Tx _ (Nat.zero_le _)
  · exact bd_Cluster _ (Nat.zero_le _)
theorem begin_mk {c : GCluster} (h : wCluster c ≤ 1048576) (id home : Int) : (1 : Int) + (sumW mPlace (beginM c id home).1.places : Nat) + (sumW mMachine (beginM c id home).1.machines : Nat) + (sumW mTx (beginM c id home).1.txs : Nat) ≤ 1000000000000 := by
  have h1 := mCluster_le c
  unfold mCluster at h1
  unfold beginM
  split
  · cases begB2 c id with
    | true => exact marks_le h
    | false =>
      cases begB3 c home with
      | true => exact marks_le h
      | false =>
        show (1 : Int) + (sumW mPlace c.places : Nat) + (sumW mMachine c.machines : Nat) + (sumW mTx (c.txs ++ [newT id home]) : Nat) ≤ 1000000000000
        rw [sumW_append]
        show (1 : Int) + (sumW mPlace c.places : Nat) + (sumW mMachine c.machines : Nat) + (sumW mTx c.txs + 5 : Nat) ≤ 1000000000000
        omega
  · decide
end Go.Proofs.YtpfcfepbhdkpdaaGreat
