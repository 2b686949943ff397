
/-
  Find and Begin; on both sides.
-/
import Derived.Test.YtpfcfepbhdkpdaaGreatP17
import Derived.Test.YtpfcfepbhdkpdaaGreatP18
namespace Go.Proofs.YtpfcfepbhdkpdaaGreat
open Go Go.RowKit
set_option linter.unusedVariables false
set_option linter.unusedSimpArgs false
set_option maxRecDepth 4000

abbrev MkTB (P : Program) (f : Nat) (args : List SV) (t : GTx) (b : Bool) : Prop := Con P f [] args [] (fun _ : Unit => True) (fun _ => [agTxG t 901 902, vB b]) fun _ => [(901, arrC 5 cNote GNote.z t.reads), (902, arrC 5 cSet GSet.z t.sets)]
open Classical in
noncomputable def findM (c : GCluster) (id : Int) : GTx × Bool := if ClusOk c ∧ 0 ≤ findI c id then (c.txs.getD (findI c id).toNat GTx.z, true) else (GTx.z, false)
/-! ### Begin -/
theorem l9No1_m (c : GCluster) : MkCI Tryz.prog 27 [vR (cCluster c), vI 1] GCluster.z 1 := by
  refine con_enter Tryz.func27 rfl rfl rfl fun B0 r_ D_ w0 => ?_
  refine T_auto1 TT_ok rfl ?_
  refine T_freeze 2 rfl rfl rfl rfl (fun _ => rfl) (fun _ => rfl) fun r_ => ?_
  refine T_auto TT_ok rfl ?_
  refine T_cond rfl (fun e => ?_) (fun e => by cases e)
  refine T_auto TT_ok rfl ?_
  refine T_view (V_nilR 4 2 1 (fun i => cPlace (([] : List GPlace).getD i GPlace.z)) rfl rfl rfl) ?_
  refine T_view (V_nilR 4 3 4 (fun i => cMachine (([] : List GMachine).getD i GMachine.z)) rfl rfl rfl) ?_
  refine T_view (V_nilR 4 4 7 (fun i => cTx (([] : List GTx).getD i GTx.z)) rfl rfl rfl) ?_
  refine T_view (V_open 4 2 901 rfl rfl rfl rfl rfl rfl) ?_
  refine T_view (V_open 4 3 902 rfl rfl rfl rfl rfl rfl) ?_
  refine T_view (V_open 4 4 903 rfl rfl rfl rfl rfl rfl) ?_
  refine T_ret TT_ok (()) [(4, some 32), (5, none)] rfl rfl ?_ ?_ ?_
  · exact SVs.imp_refl _
  · exact ⟨⟨_, rfl, Ch.imp_refl _⟩, ⟨_, rfl, Ch.imp_refl _⟩, ⟨_, rfl, Ch.imp_refl _⟩, trivial⟩
  · trivial
theorem l9No_m (c : GCluster) (hb : D.bds bigN (cCluster c)) (n : Int) (h : n ≠ 1) : MkCI Tryz.prog 27 [vR (cCluster c), vI n] c n := by
  refine con_enter Tryz.func27 rfl rfl rfl fun B0 r_ D_ w0 => ?_
  refine T_auto1 TT_ok rfl ?_
  refine T_freeze 2 rfl rfl rfl rfl (fun _ => rfl) (fun _ => rfl) fun r_ => ?_
  refine T_auto TT_ok rfl ?_
  refine T_condD rfl (fun e => absurd e h) (fun e => ?_)
  refine T_auto TT_ok rfl ?_
  refine RJ_C TT_ok (l8Copy_m c hb) rfl rfl (SVs.imp_refl _) (fun _ => rfl) rfl rfl rfl fun _ _ => ?_
  refine RJ_auto TT_ok rfl ?_
  refine T_ret TT_ok (()) [(4, some 32), (5, none)] rfl rfl ?_ ?_ ?_
  · exact SVs.imp_refl _
  · exact ⟨⟨_, rfl, Ch.imp_refl _⟩, ⟨_, rfl, Ch.imp_refl _⟩, ⟨_, rfl, Ch.imp_refl _⟩, trivial⟩
  · trivial
/-- a transaction that has just begun, nothing in it -/
abbrev agNew (id home : Int) : List V := [.v (.int .i64 id), .v (.int .i64 home), .v (.int .i64 1), .v (.int .i64 0), nilV, nilV, .v (.int .i64 0)]
abbrev dNew (id home : Int) : List D := [dI id, dI home, dI 1, dI 0, .v (.slice none 0 0), .v (.slice none 0 0), dI 0]
def newT (id home : Int) : GTx := ⟨id, home, 1, 0, [], [], 0⟩
theorem own_newT (id home : Int) : OwnI (dNew id home) (cTx (newT id home)) := OwnI.c (OwnI.c (OwnI.c (OwnI.c (OwnI.n (OwnI.n (OwnI.c OwnI.e))))))
/-- its name does not fit -/
def begB2 (c : GCluster) (id : Int) : Bool := bif (bif !inB id 1 1000000 then true else decide ((c.txs.length : Int) = 60)) then true else bif decide ((c.txs.length : Int) > 0) then decide ((c.txs.getD ((c.txs.length : Int) - 1).toNat GTx.z).id ≥ id) else false
/-- its home is down -/
def begB3 (c : GCluster) (home : Int) : Bool := bif !inB home 0 ((c.machines.length : Int) - 1) then true else !(c.machines.getD home.toNat GMachine.z).alive
open Classical in
noncomputable def beginM (c : GCluster) (id home : Int) : GCluster × Int := if ClusOk c then (bif begB2 c id then (c, 2) else bif begB3 c home then (c, 3) else ({ c with txs := c.txs ++ [newT id home] }, 0)) else (GCluster.z, 1)
end Go.Proofs.YtpfcfepbhdkpdaaGreat
