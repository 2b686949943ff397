
/-
  Find and Begin; on both sides.
-/
import Derived.Test.YtamcahpdepepfaaP17
import Derived.Test.YtamcahpdepepfaaP18
namespace Go.Proofs.Ytamcahpdepepfaa
open Go Go.RowKit
set_option linter.unusedVariables false
set_option linter.unusedSimpArgs false
set_option maxRecDepth 4000

abbrev MkTB (P : Program) (f : Nat) (args : List SV) (t : GTx) (b : Bool) : Prop := Con P f [] args [] (fun _ : Unit => True) (fun _ => [agTxG t 901 902, vB b]) fun _ => [(901, arrC 5 cNote GNote.z t.reads), (902, arrC 5 cSet GSet.z t.sets)]
open Classical in
noncomputable def findM (c : GCluster) (id : Int) : GTx × Bool := if ClusOk c ∧ 0 ≤ findI c id then (c.txs.getD (findI c id).toNat GTx.z, true) else (GTx.z, false)
/-! ### Begin -/
/-- a transaction that has just begun, nothing in it -/
abbrev agNew (id home : Int) : List V := [.v (.int .i64 id), .v (.int .i64 home), .v (.int .i64 1), .v (.int .i64 0), nilV, nilV, .v (.int .i64 0)]
abbrev dNew (id home : Int) : List D := [dI id, dI home, dI 1, dI 0, .v (.slice none 0 0), .v (.slice none 0 0), dI 0]
def newT (id home : Int) : GTx := ⟨id, home, 1, 0, [], [], 0⟩
theorem own_newT (id home : Int) : OwnI (dNew id home) (cTx (newT id home)) := OwnI.c (OwnI.c (OwnI.c (OwnI.c (OwnI.n (OwnI.n (OwnI.c OwnI.e))))))
theorem spec_NewTx_n (id home : Int) (h1 : inB id 1 1000000 = true) (h2 : inB home 0 7 = true) : Con Try.prog 63 [] [vI id, vI home] [] (fun _ : Unit => True) (fun _ => [.ag (agNew id home), vB true]) fun _ => [] := by
  refine con_enter Try.func63 rfl rfl rfl fun B0 r_ D_ w0 => ?_
  refine T_auto TT_ok rfl ?_
  refine RJ_Q TT_ok (spec_l1Id_q _) rfl rfl rfl rfl rfl ?_
  refine RJ_Q TT_ok (spec_l1Machine_q _) rfl rfl rfl rfl rfl ?_
  rw [h1, h2]
  refine T_cond rfl (fun e => by cases e) (fun e => ?_)
  refine T_auto TT_ok rfl ?_
  refine T_ret TT_ok (()) [(4, some 27), (5, none)] rfl rfl ?_ ?_ ?_
  · exact SVs.imp_refl _
  · exact trivial
  · trivial
/-- its name does not fit -/
def begB2 (c : GCluster) (id : Int) : Bool := bif (bif !inB id 1 1000000 then true else decide ((c.txs.length : Int) = 60)) then true else bif decide ((c.txs.length : Int) > 0) then decide ((c.txs.getD ((c.txs.length : Int) - 1).toNat GTx.z).id ≥ id) else false
/-- its home is down -/
def begB3 (c : GCluster) (home : Int) : Bool := bif !inB home 0 ((c.machines.length : Int) - 1) then true else !(c.machines.getD home.toNat GMachine.z).alive
open Classical in
noncomputable def beginM (c : GCluster) (id home : Int) : GCluster × Int := if ClusOk c then (bif begB2 c id then (c, 2) else bif begB3 c home then (c, 3) else ({ c with txs := c.txs ++ [newT id home] }, 0)) else (GCluster.z, 1)
end Go.Proofs.Ytamcahpdepepfaa
