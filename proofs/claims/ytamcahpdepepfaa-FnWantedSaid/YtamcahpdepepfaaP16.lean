
/-
  Copies of transactions, records, machines, clusters; on both sides.
-/
import Derived.Test.YtamcahpdepepfaaP15
import Derived.Test.YtamcahpdepepfaaG3
namespace Go.Proofs.Ytamcahpdepepfaa
open Go Go.RowKit
set_option linter.unusedVariables false
set_option linter.unusedSimpArgs false
set_option maxRecDepth 4000

/-- no value of a slice -/
abbrev nilV : V := .v (.slice none 0 0)
/-- a function that makes a transaction -/
abbrev MkT (P : Program) (f : Nat) (args : List SV) (t : GTx) : Prop := Con P f [] args [] (fun _ : Unit => True) (fun _ => [agTxG t 901 902]) fun _ => [(901, arrC 5 cNote GNote.z t.reads), (902, arrC 5 cSet GSet.z t.sets)]
abbrev MkR (P : Program) (f : Nat) (args : List SV) (t : GRecord) : Prop := Con P f [] args [] (fun _ : Unit => True) (fun _ => [agRecordG t 901]) fun _ => [(901, arrC 5 cSet GSet.z t.sets)]
abbrev MkMach (P : Program) (f : Nat) (args : List SV) (m : GMachine) : Prop := Con P f [] args [] (fun _ : Unit => True) (fun _ => [agMachineG m 901 902 903]) fun _ => [(901, arrC 2 cCopy GCopy.z m.copies), (902, arrC 4 cRecord GRecord.z m.log), (903, arrC 1 cInt 0 m.cleared)]
abbrev MkClus (P : Program) (f : Nat) (args : List SV) (c : GCluster) : Prop := Con P f [] args [] (fun _ : Unit => True) (fun _ => [agClusterG c 901 902 903]) fun _ => [(901, arrC 1 cPlace GPlace.z c.places), (902, arrC 4 cMachine GMachine.z c.machines), (903, arrC 7 cTx GTx.z c.txs)]
theorem l7Copy_m (t : GTx) (h1 : t.reads.length ≤ 1048576) (h2 : t.sets.length ≤ 1048576) : MkT Try.prog 37 [vR (cTx t)] t := by
  refine con_enter Try.func37 rfl rfl rfl fun B0 r_ D_ w0 => ?_
  refine T_auto TT_ok rfl ?_
  refine RJ_bs TT_ok 3 (fun i => cNote (([] : List GNote).getD i GNote.z)) rfl rfl rfl rfl rfl rfl rfl (fun i hi => absurd hi (Nat.not_lt_zero _)) (mu1 := []) rfl rfl rfl ?_
  refine RJ_auto TT_ok rfl ?_
  refine RJ_appC TT_ok 3 901 rfl rfl rfl rfl rfl rfl rfl rfl rfl rfl rfl rfl ⟨by simp; omega, by unfold maxL; omega⟩ ?_
  refine RJ_auto TT_ok rfl ?_
  refine RJ_bs TT_ok 8 (fun i => cSet (([] : List GSet).getD i GSet.z)) rfl rfl rfl rfl rfl rfl rfl (fun i hi => absurd hi (Nat.not_lt_zero _)) (mu1 := []) rfl rfl rfl ?_
  refine RJ_auto TT_ok rfl ?_
  refine RJ_appC TT_ok 8 902 rfl rfl rfl rfl rfl rfl rfl rfl rfl rfl rfl rfl ⟨by simp; omega, by unfold maxL; omega⟩ ?_
  refine RJ_auto TT_ok rfl ?_
  refine T_ret TT_ok (()) [(2, some 27)] rfl rfl ?_ ?_ ?_
  · exact SVs.imp_refl _
  · exact ⟨⟨_, rfl, imp_app (ys := ([] : List GNote)) (by simp)⟩, ⟨_, rfl, imp_app (ys := ([] : List GSet)) (by simp)⟩, trivial⟩
  · trivial
theorem cloneTx_m (t : GTx) (h1 : t.reads.length ≤ 1048576) (h2 : t.sets.length ≤ 1048576) : MkT Try.prog 33 [vR (cTx t)] t := by
  refine con_enter Try.func33 rfl rfl rfl fun B0 r_ D_ w0 => ?_
  refine T_auto TT_ok rfl ?_
  refine T_drawL TT_ok [] [0, 1, 3, 4, 2, 5, 6, 7, 8, 9] rfl rfl fun B0 H0 => ?_
  refine DJ_C 2 (Con.sw 900 901 (cloneNote_m t.reads h1)) rfl rfl rfl (SVs.imp_refl _) (fun _ => rfl) rfl rfl rfl fun _ _ => ?_
  refine DJ_onL TT_ok [6, 5, 7, 8, 9] rfl ?_
  refine DJ_C 5 (Con.sw 900 902 (cloneSet_m t.sets h2)) rfl rfl rfl (SVs.imp_refl _) (fun _ => rfl) rfl rfl rfl fun _ _ => ?_
  refine DJ_sw2 7 rfl (by kernel_rfl) (by kernel_rfl) (OJ_M TT_ok rfl rfl rfl rfl rfl rfl (SJ_sw [1] fun B0 H0 => ?_))
  refine DJ_onL TT_ok [8, 9] rfl ?_
  refine DJ_sw2 9 rfl (by kernel_rfl) (by kernel_rfl) (OJ_M TT_ok rfl rfl rfl rfl rfl rfl (SJ_sw [] fun B0 H0 => ?_))
  refine DJ_endA TT_ok rfl ?_
  refine T_ret TT_ok (()) [(2, some 27)] rfl rfl ?_ ?_ ?_
  · exact SVs.imp_refl _
  · exact ⟨⟨_, rfl, Ch.imp_refl _⟩, ⟨_, rfl, Ch.imp_refl _⟩, trivial⟩
  · trivial
end Go.Proofs.Ytamcahpdepepfaa
