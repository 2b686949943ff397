
/-
  Machines are killed; on both sides.
-/
import Derived.Test.YtpfcfepbhdkpdaaGreatP16
namespace Go.Proofs.YtpfcfepbhdkpdaaGreat
open Go Go.RowKit
set_option linter.unusedVariables false
set_option linter.unusedSimpArgs false
set_option maxRecDepth 4000

abbrev MkCB (P : Program) (f : Nat) (args : List SV) (c : GCluster) (b : Bool) : Prop := Con P f [] args [] (fun _ : Unit => True) (fun _ => [agClusterG c 901 902 903, vB b]) fun _ => [(901, arrC 1 cPlace GPlace.z c.places), (902, arrC 4 cMachine GMachine.z c.machines), (903, arrC 7 cTx GTx.z c.txs)]
abbrev MkCI (P : Program) (f : Nat) (args : List SV) (c : GCluster) (n : Int) : Prop := Con P f [] args [] (fun _ : Unit => True) (fun _ => [agClusterG c 901 902 903, vI n]) fun _ => [(901, arrC 1 cPlace GPlace.z c.places), (902, arrC 4 cMachine GMachine.z c.machines), (903, arrC 7 cTx GTx.z c.txs)]
/-- a cluster's row, its parts under these keys -/
abbrev rowC (c : GCluster) (k1 k2 k3 : Nat) : List V := [.v (.int .i64 c.config), .v (.int .i64 c.clock), .g k1, .g k2, .g k3, .v (.bool c.lost)]
theorem imp_set {α : Type} {sz k : Nat} {enc : α → List D} {z y : α} {xs : List α} {l : List D} (hl : OwnI l (enc y)) : (Ch.arr sz xs.length fun j => bif Nat.beq j k then l else enc (xs.getD j z)).imp (arrC sz enc z (xs.set k y)) :=
  Ch.imp_own (by simp) fun j hj => by
    by_cases c : j = k
    · subst c
      rw [Nat.beq_refl]
      have : (xs.set j y).getD j z = y := by simp [hj]
      rw [this]; exact hl
    · have h1 : Nat.beq j k = false := by
        cases e : Nat.beq j k with
        | false => rfl
        | true => exact absurd (Nat.eq_of_beq_eq_true e) c
      have h2 : (xs.set k y).getD j z = xs.getD j z := by simp [List.getElem?_set_ne (Ne.symm c)]
      rw [h1, h2]; exact OwnI.refl _
theorem own_zMach : OwnI [.v (.bool false), .v (.slice none 0 0), .v (.slice none 0 0), .v (.slice none 0 0)] (cMachine GMachine.z) := OwnI.c (OwnI.n (OwnI.n (OwnI.n OwnI.e)))
def killB (ms : List GMachine) (m0 : Int) : Bool := bif inB m0 0 ((ms.length : Int) - 1) then (ms.getD m0.toNat GMachine.z).alive else false
def killL (ms : List GMachine) (m0 : Int) : List GMachine := if killB ms m0 = true then ms.set m0.toNat GMachine.z else ms
open Classical in
noncomputable def killM (c : GCluster) (m0 : Int) : GCluster × Bool := if ClusOk c then ({ c with machines := killL c.machines m0 }, killB c.machines m0) else (GCluster.z, false)
theorem killB_in {ms : List GMachine} {m0 : Int} (h : killB ms m0 = true) : 0 ≤ m0 ∧ m0 < ms.length := by
  unfold killB at h
  cases c : inB m0 0 ((ms.length : Int) - 1) with
  | false => rw [c] at h; cases h
  | true => have := inB_iff.1 c; omega
theorem killB_not {ms : List GMachine} {m0 : Int} : (bif !inB m0 0 ((ms.length : Int) - 1) then true else !(ms.getD m0.toNat GMachine.z).alive) = !killB ms m0 := by
  unfold killB
  cases inB m0 0 ((ms.length : Int) - 1) <;> rfl
theorem guard_in {n : Nat} {m0 : Int} (k : (!inB m0 0 ((n : Int) - 1)) = false) : 0 ≤ m0 ∧ m0 < n := by
  have := inB_iff.1 (show inB m0 0 ((n : Int) - 1) = true from by simpa using k)
  omega
end Go.Proofs.YtpfcfepbhdkpdaaGreat
