
/-
  Clusters: are they right, on both sides.
-/
import Derived.Test.YtamcahpdepepfaaP10
import Derived.Test.YtamcahpdepepfaaPE
namespace Go.Proofs.Ytamcahpdepepfaa
open Go Go.RowKit
set_option linter.unusedVariables false
set_option linter.unusedSimpArgs false
set_option maxRecDepth 4000

theorem bd_at {α : Type} {N sz : Nat} {enc : α → List D} {z : α} {xs : List α} (h : D.bd N (dL sz enc z xs)) (hz : D.bds N (enc z)) (i : Nat) : D.bds N (enc (xs.getD i z)) := by
  by_cases c : i < xs.length
  · exact h.2 i c
  · rw [List.getD_eq_getElem?_getD, List.getElem?_eq_none (by omega)]; exact hz
def atB (r : Int) (x : GCopy) : Bool := x.region == r
def hasB (m : GMachine) (r : Int) : Bool := m.copies.any (atB r)
theorem idx_lt {α : Type} (p : α → Bool) (z : α) (xs : List α) : decide (idxI p xs < 0) = !xs.any p := by
  rcases idxI_cases p z xs with ⟨h1, h2⟩ | ⟨i, h1, h2, h3, h4⟩
  · rw [any_no h2, h1]; rfl
  · rw [any_at h1 h4, h2]; simp
theorem hasB_get {m : GMachine} {r0 : Int} (h : hasB m r0 = true) : ∃ i, i < m.copies.length ∧ (∀ j, j < i → atB r0 (m.copies.getD j GCopy.z) = false) ∧ atB r0 (m.copies.getD i GCopy.z) = true := by
  rcases idxI_cases (atB r0) GCopy.z m.copies with ⟨h1, h2⟩ | ⟨i, h1, h2, h3, h4⟩
  · rw [hasB, any_no h2] at h; cases h
  · exact ⟨i, h1, h3, h4⟩

/-! ### clusters -/
/-- machine number k of region r -/
abbrev mAt (c : GCluster) (r k : Nat) : Int := (c.places.getD r GPlace.z).machines.getD k 0
def badAt (c : GCluster) (r k : Nat) : Bool := bif decide (mAt c r k ≥ (c.machines.length : Int)) then true else bif (c.machines.getD (mAt c r k).toNat GMachine.z).alive then !hasB (c.machines.getD (mAt c r k).toNat GMachine.z) r else false
noncomputable def badTx (c : GCluster) (i : Nat) : Bool := bif (bif (bif !dec (TxOk (c.txs.getD i GTx.z)) then true else bif decide ((i : Int) > 0) then decide ((c.txs.getD i GTx.z).id ≤ (c.txs.getD ((i : Int) - 1).toNat GTx.z).id) else false) then true else decide ((c.txs.getD i GTx.z).home ≥ (c.machines.length : Int))) then true else decide ((c.txs.getD i GTx.z).stamp > c.clock)
def ClusOk (c : GCluster) : Prop := ((1 ≤ c.config ∧ c.config ≤ 1000000) ∧ (0 ≤ c.clock ∧ c.clock ≤ 1000000) ∧ (1 ≤ c.machines.length ∧ c.machines.length ≤ 8) ∧ c.txs.length ≤ 60) ∧ PlOk c.places ∧ (∀ i, i < c.machines.length → MachOk (c.machines.getD i GMachine.z)) ∧
  (∀ r, r < c.places.length → ∀ k, k < (c.places.getD r GPlace.z).machines.length → badAt c r k = false) ∧ ∀ i, i < c.txs.length → badTx c i = false ∧ (∀ k, k < (c.txs.getD i GTx.z).reads.length → ((c.txs.getD i GTx.z).reads.getD k GNote.z).region < c.places.length) ∧ ∀ k, k < (c.txs.getD i GTx.z).sets.length → ((c.txs.getD i GTx.z).sets.getD k GSet.z).region < c.places.length
theorem pl_nonneg {p : GPlace} (h : plOk p) {k : Nat} (hk : k < p.machines.length) : 0 ≤ p.machines.getD k 0 ∧ p.machines.getD k 0 ≤ 7 := by
  have h1 := h.2 k hk
  unfold badPl at h1
  cases c : inB (p.machines.getD k 0) 0 7 with
  | false => rw [c] at h1; cases h1
  | true => exact inB_iff.1 c
theorem bdM_any {c : GCluster} (hb : D.bds bigN (cCluster c)) (i : Nat) : D.bds bigN (cMachine (c.machines.getD i GMachine.z)) := bd_at hb.2.2.2.1 ⟨trivial, ⟨Nat.zero_le _, fun i hi => absurd hi (Nat.not_lt_zero _)⟩, ⟨Nat.zero_le _, fun i hi => absurd hi (Nat.not_lt_zero _)⟩, ⟨Nat.zero_le _, fun i hi => absurd hi (Nat.not_lt_zero _)⟩, trivial⟩ _
theorem hasB_lt {c : GCluster} {i : Nat} {r0 : Int} (h : hasB (c.machines.getD i GMachine.z) r0 = true) : i < c.machines.length := by
  rcases Nat.lt_or_ge i c.machines.length with h1 | h1
  · exact h1
  · rw [List.getD_eq_getElem?_getD, List.getElem?_eq_none h1] at h; cases h
theorem cells6 {m : GMachine} (h : MachOk m) {i : Nat} (hi : i < m.copies.length) : cellsB (m.copies.getD i GCopy.z).cells = true := by
  have h1 := h.2.2.1 i hi
  unfold badCopy at h1
  cases c : cellsB (m.copies.getD i GCopy.z).cells with
  | true => rfl
  | false => rw [c] at h1; cases c2 : inB (m.copies.getD i GCopy.z).region 0 5 <;> rw [c2] at h1 <;> cases h1
theorem cellsB_len {xs : List GCell} (h : cellsB xs = true) : xs.length = 6 := by
  unfold cellsB at h
  cases c : ((xs.length : Int) == 6) with
  | false => rw [c] at h; cases h
  | true => have := beq_iff_eq.1 c; omega
theorem tx_impl (c : GCluster) (i : Nat) : (bif (bif badTx c i then true else (c.txs.getD i GTx.z).reads.any fun n => decide (n.region ≥ (c.places.length : Int))) then true else (c.txs.getD i GTx.z).sets.any fun n => decide (n.region ≥ (c.places.length : Int))) = false ↔
    badTx c i = false ∧ (∀ k, k < (c.txs.getD i GTx.z).reads.length → ((c.txs.getD i GTx.z).reads.getD k GNote.z).region < c.places.length) ∧ ∀ k, k < (c.txs.getD i GTx.z).sets.length → ((c.txs.getD i GTx.z).sets.getD k GSet.z).region < c.places.length := by
  constructor
  · intro h
    cases c1 : badTx c i with
    | true => rw [c1] at h; cases h
    | false =>
      rw [c1] at h
      cases c2 : (c.txs.getD i GTx.z).reads.any fun n => decide (n.region ≥ (c.places.length : Int)) with
      | true => rw [c2] at h; cases h
      | false =>
        rw [c2] at h
        refine ⟨rfl, fun k hk => ?_, fun k hk => ?_⟩
        · have := any_get (z := GNote.z) c2 k hk
          have := of_decide_eq_false this
          omega
        · have := any_get (z := GSet.z) (show ((c.txs.getD i GTx.z).sets.any fun n => decide (n.region ≥ (c.places.length : Int))) = false from h) k hk
          have := of_decide_eq_false this
          omega
  · rintro ⟨h1, h2, h3⟩
    rw [h1, any_no (z := GNote.z) fun k hk => decide_eq_false (by have := h2 k hk; omega), any_no (z := GSet.z) fun k hk => decide_eq_false (by have := h3 k hk; omega)]; rfl
end Go.Proofs.Ytamcahpdepepfaa
