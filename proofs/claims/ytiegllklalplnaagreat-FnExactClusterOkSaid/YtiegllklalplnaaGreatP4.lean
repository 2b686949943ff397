
/-
  The program's side: Sets at a region.
-/
import Derived.Test.YtiegllklalplnaaGreatP3
import Derived.Test.YtiegllklalplnaaGreatS
namespace Go.Proofs.YtiegllklalplnaaGreat
open Go Go.RowKit
set_option linter.unusedVariables false
set_option linter.unusedSimpArgs false
set_option maxRecDepth 4000

theorem setsOf1_q (s : GSet) (r0 : Int) : Ans Tryz.prog 138 [] [vR (cSet s), vP [dI r0]] [] (vB (s.region != r0)) := by
  refine con_enter Tryz.func138 rfl rfl rfl fun B0 r D w0 => ?_
  refine T_auto TT_ok rfl ?_
  exact T_ansB TT_ok [(3, none)] rfl rfl (rfl)
theorem setsOf_m (t : GTx) (r0 : Int) (hl : t.sets.length ≤ 1048576) : MkL Tryz.prog 68 [vP (cTx t), vI r0] 5 cSet GSet.z (setsAt r0 t.sets) := by
  refine con_enter Tryz.func68 rfl rfl rfl fun B0 r D w0 => ?_
  refine T_auto TT_ok rfl ?_
  refine RJ_C TT_ok (Con.sw 900 9 (cloneSet_m t.sets hl)) rfl rfl (SVs.imp_refl _) (fun _ => rfl) rfl rfl rfl fun _ _ => ?_
  refine RJ_auto TT_ok rfl ?_
  refine RJ_C TT_ok (Con.sw 900 9 (Con.sw 901 11 (deleteFuncSet_c t.sets hl fun s => s.region != r0))) rfl rfl (SVs.cons (SV.imp_refl _) (SVs.cons (imp_fb (enters_B (by kernel_rfl)) rfl fun args x ⟨s, h1, h2⟩ => by subst h1; subst h2; exact setsOf1_q s r0) rfl)) (fun _ => rfl) rfl rfl rfl fun _ _ => ?_
  refine RJ_auto TT_ok rfl ?_
  refine T_view (V_sw 11 900) ?_
  refine T_ret TT_ok (()) [(4, none)] rfl rfl ?_ ?_ ?_
  · exact SVs.imp_refl _
  · exact ⟨⟨_, rfl, imp_list (by simp [setsAt, bne])⟩, trivial⟩
  · trivial
open Classical in
noncomputable def setsOfM (t : GTx) (r0 : Int) : List GSet := if TxOk t then setsAt r0 t.sets else []
end Go.Proofs.YtiegllklalplnaaGreat
