
/-
  How much a right cluster weighs; what Read and Alloc make of it.
-/
import Derived.Test.YtpfcfepbhdkpdaaGreatP32
namespace Go.Proofs.YtpfcfepbhdkpdaaGreat
open Go Go.RowKit
set_option linter.unusedVariables false
set_option linter.unusedSimpArgs false
set_option maxRecDepth 4000

theorem sumW_all {α : Type} {w : α → Nat} {k : Nat} : ∀ {xs : List α}, (∀ x ∈ xs, w x ≤ k) → sumW w xs ≤ k * xs.length
  | [], _ => Nat.zero_le _
  | x :: r, h => by
    have h1 := h x (by simp)
    have h2 := sumW_all (w := w) (k := k) (xs := r) fun y hy => h y (by simp [hy])
    simp only [sumW, List.length_cons, Nat.mul_add, Nat.mul_one]
    omega
theorem all_getD {α : Type} {z : α} {P : α → Prop} {xs : List α} (h : ∀ i, i < xs.length → P (xs.getD i z)) : ∀ x ∈ xs, P x := fun x hx => by
  obtain ⟨i, hi, rfl⟩ := List.mem_iff_getElem.1 hx
  have := h i hi
  simpa [hi] using this
theorem recB_le {r : GRecord} (h : recB r = true) : r.sets.length ≤ 12 := by
  unfold recB at h
  cases c1 : inB r.kind 1 3 <;> cases c2 : inB r.tx 1 1000000 <;> cases c3 : inB r.region 0 5 <;> cases c4 : decide ((r.sets.length : Int) ≥ 1) <;> cases c5 : decide ((r.sets.length : Int) ≤ 12) <;> rw [c1, c2, c3, c4, c5] at h <;> first | (cases h; done) | (have := of_decide_eq_true c5; omega)
theorem machOk_w {m : GMachine} (h : MachOk m) : wMachine m ≤ 2702 := by
  have h1 : sumW wCopy m.copies ≤ 6 * m.copies.length := sumW_all (all_getD (z := GCopy.z) fun i hi => by
    have := cellsB_len (cells6 h hi)
    show (m.copies.getD i GCopy.z).cells.length ≤ 6
    omega)
  have h2 : sumW wRecord m.log ≤ 12 * m.log.length := sumW_all (all_getD (z := GRecord.z) fun i hi => recB_le (h.2.2.2 i hi))
  have h3 := h.1
  unfold wMachine wL
  omega
theorem txOk_w {t : GTx} (h : TxOk t) : wTx t ≤ 24 := by
  have := h.1.2.2.2.2.2
  unfold wTx
  omega
theorem clusOk_w {c : GCluster} (h : ClusOk c) {txs : List GTx} (hl : txs.length ≤ 60) (ht : ∀ t ∈ txs, wTx t ≤ 24) : wCluster { c with txs := txs } ≤ 30000 := by
  have h1 : sumW wPlace c.places ≤ 3 * c.places.length := sumW_all (all_getD (z := GPlace.z) fun i hi => (h.pl hi).2)
  have h2 : sumW wMachine c.machines ≤ 2702 * c.machines.length := sumW_all (all_getD (z := GMachine.z) fun i hi => machOk_w (h.2.2.1 i hi))
  have h3 : sumW wTx txs ≤ 24 * txs.length := sumW_all ht
  have h4 := h.1.2.2.1.2
  have h5 := h.2.1.1.2
  show wL wPlace c.places + wL wMachine c.machines + wL wTx txs ≤ 30000
  unfold wL
  omega
theorem clusOk_w0 {c : GCluster} (h : ClusOk c) : wCluster c ≤ 30000 := clusOk_w (c := c) h h.1.2.2.2 (all_getD (z := GTx.z) fun i hi => txOk_w (h.tx hi))
theorem putC_w {c : GCluster} (h : ClusOk c) (id : Int) {t : GTx} (ht : wTx t ≤ 24) : wCluster (putC c id t) ≤ 30000 := by
  refine clusOk_w (txs := c.txs.set (findI c id).toNat t) h (by rw [List.length_set]; exact h.1.2.2.2) fun x hx => ?_
  rcases List.mem_or_eq_of_mem_set hx with hx | rfl
  · exact all_getD (z := GTx.z) (P := fun t => wTx t ≤ 24) (fun i hi => txOk_w (h.tx hi)) x hx
  · exact ht
theorem z_w : wCluster GCluster.z ≤ 30000 := by decide
/-- behind a read a transaction is right again -/
theorem readR_ok {c : GCluster} (hok : ClusOk c) {t : GTx} (ht : TxOk t) {r s : Int} (hr : 0 ≤ r ∧ r < c.places.length) (hs : 0 ≤ s ∧ s ≤ 5) : TxOk (readR c t r s).1 := by
  unfold readR
  cases t.sets.any (atCell r s) with
  | true => exact ht
  | false =>
    cases t.reads.any (atNote r s) with
    | true => exact ht
    | false =>
      cases ha : (machAt c r.toNat 0).alive with
      | false => exact ht
      | true =>
        cases lockedB (cellAt c r s).head with
        | true => exact ht
        | false =>
          have := (addRead_ok ht (noteAt_ok hok hr hs ha)).1
          cases (addRead' t (noteAt c r s)).2 with
          | true => exact this
          | false => exact ht
theorem read_w {c : GCluster} (h : wCluster c ≤ 1048576) (id r s : Int) : wCluster (readM c id r s).1 ≤ 1048576 := by
  unfold readM
  split
  · rename_i hok
    split
    · rename_i h0
      cases hc : cellB c r s with
      | true => exact h
      | false =>
        have hin := findI_in (live_of_run h0).2.2
        exact Nat.le_trans (putC_w hok id (txOk_w (readR_ok hok (hok.tx hin.1) (cellB_in hc).1 (cellB_in hc).2))) (by decide)
    · exact h
  · exact Nat.le_trans z_w (by decide)
theorem alloc_facts {c : GCluster} {t : GTx} {r : Int} (h : allocN c t r = 0) : (0 ≤ r ∧ r < c.places.length) ∧ (machAt c r.toNat 0).alive = true ∧ 0 ≤ slotF c t r ∧ (addRead' t (noteF c t r)).2 = true ∧ setB (setF c t r) = true ∧ (addSet' (addRead' t (noteF c t r)).1 (setF c t r)).2 = true := by
  unfold allocN at h
  cases c1 : inB r 0 ((c.places.length : Int) - 1) with
  | false => rw [c1] at h; cases h
  | true =>
    cases c2 : (machAt c r.toNat 0).alive with
    | false => rw [c1, c2] at h; cases h
    | true =>
      cases c3 : decide (slotF c t r < 0) with
      | true => rw [c1, c2, c3] at h; cases h
      | false =>
        cases c4 : (addRead' t (noteF c t r)).2 with
        | false => rw [c1, c2, c3, c4] at h; cases h
        | true =>
          cases c5 : setB (setF c t r) with
          | false => rw [c1, c2, c3, c4, c5] at h; cases h
          | true =>
            cases c6 : (addSet' (addRead' t (noteF c t r)).1 (setF c t r)).2 with
            | false => rw [c1, c2, c3, c4, c5, c6] at h; cases h
            | true =>
              have := inB_iff.1 c1
              have := of_decide_eq_false c3
              exact ⟨by omega, rfl, by omega, rfl, rfl, rfl⟩
theorem allocT_ok {c : GCluster} {t : GTx} (ht : TxOk t) {r : Int} (h : allocN c t r = 0) : TxOk (allocT c t r) := by
  obtain ⟨h1, h2, h3, h4, h5, h6⟩ := alloc_facts h
  have h7 := setB_iff.1 h5
  have hn : noteB (noteF c t r) = true := by
    unfold setF at h7
    unfold noteB noteF
    dsimp only at h7 ⊢
    rw [inB_iff.2 h7.1, inB_iff.2 h7.2.1]
    rw [inB_iff.2 (show (0 : Int) ≤ verF c t r ∧ verF c t r ≤ 1000000 from by omega)]
    rfl
  exact (addSet_ok (addRead_ok ht hn).1 h5).1
theorem alloc_w {c : GCluster} (h : wCluster c ≤ 1048576) (id r : Int) : wCluster (allocM c id r).1 ≤ 1048576 := by
  unfold allocM
  split
  · rename_i hok
    split
    · rename_i h0
      have hin := findI_in (live_of_run h0).2.2
      split
      · rename_i hN
        exact Nat.le_trans (putC_w hok id (txOk_w (allocT_ok (hok.tx hin.1) hN))) (by decide)
      · exact h
    · exact h
  · exact Nat.le_trans z_w (by decide)
end Go.Proofs.YtpfcfepbhdkpdaaGreat
