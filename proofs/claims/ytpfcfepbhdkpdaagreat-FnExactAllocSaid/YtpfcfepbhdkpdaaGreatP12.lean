
/-
  Clusters are asked: whether settled, votes, who is up, cells, whether stricken, transactions; on both sides.
-/
import Derived.Test.YtpfcfepbhdkpdaaGreatP11
import Derived.Test.YtpfcfepbhdkpdaaGreatWH
namespace Go.Proofs.YtpfcfepbhdkpdaaGreat
open Go Go.RowKit
set_option linter.unusedVariables false
set_option linter.unusedSimpArgs false
set_option maxRecDepth 4000

/-- the machine number k of region r -/
abbrev machAt (c : GCluster) (r k : Nat) : GMachine := c.machines.getD (mAt c r k).toNat GMachine.z
def cellsOf (m : GMachine) (r : Int) : List GCell := if hasB m r = true then (m.copies.getD (idxI (atB r) m.copies).toNat GCopy.z).cells else []
theorem hasB_idx {m : GMachine} {r : Int} (h : hasB m r = true) : 0 ≤ idxI (atB r) m.copies ∧ idxI (atB r) m.copies < m.copies.length := by
  rcases idxI_cases (atB r) GCopy.z m.copies with ⟨h1, h2⟩ | ⟨i, h1, h2, h3, h4⟩
  · rw [hasB, any_no h2] at h; cases h
  · omega
theorem cellsOf_has {m : GMachine} {r : Int} (h : hasB m r = true) : cellsOf m r = (m.copies.getD (idxI (atB r) m.copies).toNat GCopy.z).cells := by rw [cellsOf, if_pos h]
theorem cells_q (m : GMachine) (hl : m.copies.length ≤ 1048576) (r0 : Int) : Ans Tryz.prog 77 [] [vP (cMachine m), vI r0] [] (vL 2 cCell GCell.z (cellsOf m r0)) := by
  cases h : hasB m r0 with
  | false =>
    refine (cells_none_q m hl r0 h).wkR fun _ _ => ⟨_, _, rfl, ?_, rfl⟩
    rw [cellsOf, if_neg (by rw [h]; simp)]
    intro B Z v e
    have e : v = .slice none 0 0 := e
    subst e
    exact ⟨none, 0, rfl, Nat.le_refl _, Nat.zero_le _, .inl rfl⟩
  | true =>
    rcases idxI_cases (atB r0) GCopy.z m.copies with ⟨h1, h2⟩ | ⟨i, h1, h2, h3, h4⟩
    · rw [hasB, any_no h2] at h; cases h
    · have e : cellsOf m r0 = (m.copies.getD i GCopy.z).cells := by rw [cellsOf_has h, h2]; rfl
      rw [e]
      exact cells_some_q m hl r0 i h1 h3 h4
/-! ### what a right cluster has -/
theorem ClusOk.at {c : GCluster} (h : ClusOk c) {r k : Nat} (hr : r < c.places.length) (hk : k < (c.places.getD r GPlace.z).machines.length) : (0 ≤ mAt c r k ∧ mAt c r k < c.machines.length) ∧ ((machAt c r k).alive = true → hasB (machAt c r k) r = true) := by
  have h1 := pl_nonneg (h.2.1.2 r hr) hk
  have h2 := h.2.2.2.1 r hr k hk
  unfold badAt at h2
  cases c1 : decide (mAt c r k ≥ (c.machines.length : Int)) with
  | true => rw [c1] at h2; cases h2
  | false =>
    rw [c1] at h2
    have := of_decide_eq_false c1
    refine ⟨⟨h1.1, by omega⟩, fun ha => ?_⟩
    change (bif (machAt c r k).alive then !hasB (machAt c r k) r else false) = false at h2
    rw [ha] at h2
    simpa using h2
theorem ClusOk.pl {c : GCluster} (h : ClusOk c) {r : Nat} (hr : r < c.places.length) : 1 ≤ (c.places.getD r GPlace.z).machines.length ∧ (c.places.getD r GPlace.z).machines.length ≤ 3 := (h.2.1.2 r hr).1
theorem ClusOk.mach {c : GCluster} (h : ClusOk c) {r k : Nat} (hr : r < c.places.length) (hk : k < (c.places.getD r GPlace.z).machines.length) : MachOk (machAt c r k) := h.2.2.1 _ (by have := (h.at hr hk).1; omega)
theorem cellsOf_len {m : GMachine} (h : MachOk m) {r : Int} (hh : hasB m r = true) : (cellsOf m r).length = 6 ∧ cellsB (cellsOf m r) = true := by
  have h1 := hasB_idx hh
  rw [cellsOf_has hh]
  have h2 := cells6 h (i := (idxI (atB r) m.copies).toNat) (by omega)
  exact ⟨cellsB_len h2, h2⟩
theorem cellsB_get {xs : List GCell} (h : cellsB xs = true) {i : Nat} (hi : i < xs.length) : badCell (xs.getD i GCell.z) = false := by
  unfold cellsB at h
  cases c : ((xs.length : Int) == 6) with
  | false => rw [c] at h; cases h
  | true => rw [c] at h; exact any_get (by simpa using h) i hi
theorem headB_cell {x : GCell} (h : badCell x = false) : headB x.head = true := by
  unfold badCell at h
  cases c : headB x.head with
  | true => rfl
  | false => rw [c] at h; cases h

/-! ### settled -/
def downB (c : GCluster) (r : Nat) : Bool := anyN (c.places.getD r GPlace.z).machines.length fun k => !(machAt c r k).alive
def eqC (x y : GCell) : Bool := bif x.head == y.head then (bif x.value == y.value then true else false) else false
theorem eqC_iff {x y : GCell} : eqC x y = true ↔ x = y := by
  obtain ⟨a, b⟩ := x
  obtain ⟨c, d⟩ := y
  unfold eqC
  by_cases h : a = c <;> simp [h]
theorem ext_getD {α : Type} {z : α} {xs ys : List α} (hl : xs.length = ys.length) (h : ∀ i, i < xs.length → xs.getD i z = ys.getD i z) : xs = ys := by
  refine List.ext_getElem hl fun i h1 h2 => ?_
  have := h i h1
  simpa [h1, h2] using this
/-- all copies are alike, nothing is locked or logged -/
def SettledP (c : GCluster) : Prop := ClusOk c ∧ c.lost = false ∧ (∀ i, i < c.machines.length → (c.machines.getD i GMachine.z).log.length = 0) ∧ ∀ r, r < c.places.length → downB c r = false ∧ (∀ k, k < (c.places.getD r GPlace.z).machines.length → cellsOf (machAt c r 0) r = cellsOf (machAt c r k) r) ∧ ∀ s, s < 6 → lockedB ((cellsOf (machAt c r 0) r).getD s GCell.z).head = false
end Go.Proofs.YtpfcfepbhdkpdaaGreat
