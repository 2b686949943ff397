
/-
  Whether settled, and votes; on both sides.
-/
import Derived.Test.YtpfcfepbhdkpdaaGreatP12
namespace Go.Proofs.YtpfcfepbhdkpdaaGreat
open Go Go.RowKit
set_option linter.unusedVariables false
set_option linter.unusedSimpArgs false
set_option maxRecDepth 4000

theorem primary_q (c : GCluster) (r0 : Nat) (hr : r0 < c.places.length) (hp : 0 < (c.places.getD r0 GPlace.z).machines.length) (hin : 0 ≤ mAt c r0 0 ∧ mAt c r0 0 < c.machines.length) : Ans Tryz.prog 108 [] [vP (cCluster c), vI r0] [] (vP (cMachine (machAt c r0 0))) := by
  refine con_enter Tryz.func108 rfl rfl rfl fun B0 r_ D_ w0 => ?_
  refine T_auto TT_ok rfl ?_
  refine T_drawA TT_ok [] rfl rfl fun B0 H0 => ?_
  refine DJ_endA TT_ok rfl ?_
  exact T_ans TT_ok [(4, none)] rfl rfl (rfl)
theorem locked_any {xs : List GCell} (h : cellsB xs = true) (hl : xs.length = 6) : (xs.any fun x => andI x.head 1 != 0) = false ↔ ∀ s, s < 6 → lockedB (xs.getD s GCell.z).head = false := by
  constructor
  · intro e s hs
    have := any_get (z := GCell.z) e s (by omega)
    rwa [locked1 (headB_cell (cellsB_get h (by omega)))] at this
  · intro e
    exact any_no (z := GCell.z) fun s hs => by rw [locked1 (headB_cell (cellsB_get h hs))]; exact e s (by omega)
theorem settled_end {c : GCluster} {i : Nat} {p : Nat → Prop} (h3 : ∀ r, r < i → p r) (e : ¬ (i : Int) < c.places.length) : (!c.machines.any fun m => decide ((m.log.length : Int) > 0)) = dec ((∀ i, i < c.machines.length → (c.machines.getD i GMachine.z).log.length = 0) ∧ ∀ r, r < c.places.length → p r) := by
  rw [Bool.eq_iff_iff, dec_iff]
  constructor
  · intro h
    refine ⟨fun j hj => ?_, fun r hr => h3 r (by omega)⟩
    have := any_get (z := GMachine.z) (by simpa using h : (c.machines.any fun m => decide ((m.log.length : Int) > 0)) = false) j hj
    have := of_decide_eq_false this
    omega
  · rintro ⟨h, _⟩
    rw [any_no (z := GMachine.z) fun j hj => decide_eq_false (by rw [h j hj]; omega)]; rfl
theorem settled_law (c : GCluster) (hok : ClusOk c) : (bif (bif dec (ClusOk c) then !c.lost else false) then dec ((∀ i, i < c.machines.length → (c.machines.getD i GMachine.z).log.length = 0) ∧ ∀ r, r < c.places.length → downB c r = false ∧ (∀ k, k < (c.places.getD r GPlace.z).machines.length → cellsOf (machAt c r 0) r = cellsOf (machAt c r k) r) ∧ ∀ s, s < 6 → lockedB ((cellsOf (machAt c r 0) r).getD s GCell.z).head = false) else false) = dec (SettledP c) := by
  rw [dec_true hok, Bool.eq_iff_iff, dec_iff]
  cases h : c.lost with
  | true => simp [SettledP, h]
  | false =>
    simp only [Bool.cond_true, Bool.not_false, dec_iff]
    exact ⟨fun k => ⟨hok, h, k.1, k.2⟩, fun k => k.2.2⟩
/-! ### votes -/
def atLog (tx r kind : Int) (x : GRecord) : Bool := bif (bif x.tx == tx then x.region == r else false) then x.kind == kind else false
def logI (m : GMachine) (tx r kind : Int) : Int := idxI (atLog tx r kind) m.log
def maxI (a b : Int) : Int := if a > b then a else b
theorem maxI_impl (a b : Int) : (if b > a then b else a) = maxI a b := by unfold maxI; split <;> split <;> omega
/-- what machine number k adds to a vote -/
def stepV (c : GCluster) (id r : Int) (k : Nat) (best : Int) : Int :=
  let m := machAt c r.toNat k
  if m.alive = false then best else if (bif decide (logI m id r 3 ≥ 0) then true else decide (id ∈ m.cleared)) = true then maxI best 4 else if decide (logI m id r 2 ≥ 0) = true then maxI best 3 else if (bif ((k : Int) == 0) then decide (logI m id r 1 ≥ 0) else false) = true then maxI best 2 else best
def voteN (c : GCluster) (id r : Int) : Nat → Int
  | 0 => 1
  | k + 1 => stepV c id r k (voteN c id r k)
end Go.Proofs.YtpfcfepbhdkpdaaGreat
