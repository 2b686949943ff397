/-
  The law of Checks.
-/
import Derived.Test.YtiilpopeognekaaP8
import Derived.Test.YtiilpopeognekaaG2
namespace Go.Proofs.Ytiilpopeognekaa
open Go Go.RowKit
set_option linter.unusedVariables false
set_option linter.unusedSimpArgs false
set_option maxRecDepth 4000

theorem exactChecks_q (t : GTx) (b1 : t.reads.length ≤ maxL) (b2 : t.sets.length ≤ maxL) : Ans Try.prog 7 [] [vR (cTx t)] [] (vB true) := by
  refine con_enter Try.func7 rfl rfl rfl fun B0 r D w0 => ?_
  refine T_auto TT_ok rfl ?_
  refine RJ_Q TT_ok (szTx_q t b1 b2) rfl rfl rfl rfl rfl ?_
  refine T_condD rfl (fun e => ?_) (fun e => ?_)
  · refine T_auto TT_ok rfl ?_
    exact T_ansB TT_ok [(2, none)] rfl rfl (rfl)
  have h1 : t.reads.length ≤ 1048576 := by have := szTxI_pos e; omega
  have h2 : t.sets.length ≤ 1048576 := by have := szTxI_pos e; omega
  have h3 : (checksM t).length ≤ 1048576 := Nat.le_trans (checksM_le t) h1
  clear e
  refine T_auto TT_ok rfl ?_
  refine RJ_C TT_ok (Con.sw 901 191 (Con.sw 902 192 (toTx_m t h1 h2))) rfl rfl (SVs.imp_refl _) (fun _ => rfl) rfl rfl rfl fun _ _ => ?_
  refine RJ_auto TT_ok rfl ?_
  refine RJ_C TT_ok (Con.sw 900 21 (spec_Checks_m t h1 h2)) rfl rfl (SVs.imp_refl _) (fun _ => rfl) rfl rfl rfl fun _ _ => ?_
  refine RJ_auto TT_ok rfl ?_
  refine RJ_C TT_ok (Con.sw 901 231 (Con.sw 902 232 (toTx_m t h1 h2))) rfl rfl (SVs.imp_refl _) (fun _ => rfl) rfl rfl rfl fun _ _ => ?_
  refine RJ_auto TT_ok rfl ?_
  refine RJ_C TT_ok (Con.sw 900 26 (impl_Checks_m t h1 h2)) rfl rfl (SVs.imp_refl _) (fun _ => rfl) rfl rfl rfl fun _ _ => ?_
  refine RJ_auto TT_ok rfl ?_
  refine RJ_Q TT_ok (eqNoteS_q _ h3) rfl rfl rfl rfl rfl ?_
  refine T_cond rfl (fun e => by cases e) (fun _ => ?_)
  refine T_auto TT_ok rfl ?_
  refine T_drawA TT_ok [] rfl rfl fun B0 H0 => ?_
  refine DJ_C 2 (Con.sw 901 331 (Con.sw 902 332 (toTx_m t h1 h2))) rfl rfl rfl (SVs.imp_refl _) (fun _ => rfl) rfl rfl rfl fun _ _ => ?_
  refine DJ_Q1 3 (eqTx_q t h1 h2) rfl rfl rfl rfl rfl ?_
  refine DJ_on TT_ok rfl ?_
  refine DJ_endA TT_ok rfl ?_
  refine T_cond rfl (fun e => by cases e) (fun _ => ?_)
  refine T_auto TT_ok rfl ?_
  refine RJ_C TT_ok (Con.sw 901 231 (Con.sw 902 232 (markTx_c t h1 h2 1 (by decide) (by decide)))) rfl rfl (SVs.imp_refl _) (fun _ => rfl) rfl rfl rfl fun _ _ => ?_
  refine RJ_auto TT_ok rfl ?_
  refine RJ_Q TT_ok (eqNoteS_q _ h3) rfl rfl rfl rfl rfl ?_
  refine T_cond rfl (fun e => ?_) (fun _ => ?_)
  · have : decide (1 + 5 * (t.reads.length : Int) + 5 * (t.sets.length : Int) < 0) = false := decide_eq_false (by omega)
    rw [this] at e; cases e
  refine T_auto TT_ok rfl ?_
  refine RJ_C TT_ok (Con.sw 900 26 (markNoteS_c _ h3 1 (by decide) (by decide))) rfl rfl (SVs.imp_refl _) (fun _ => rfl) rfl rfl rfl fun _ _ => ?_
  refine RJ_auto TT_ok rfl ?_
  refine RJ_Q TT_ok (heldNoteS_q _ h3 1 (by decide) (by decide)) rfl rfl rfl rfl rfl ?_
  refine T_condD rfl (fun e => by omega) (fun _ => ?_)
  refine T_auto TT_ok rfl ?_
  refine T_condN rfl (fun e => absurd rfl e) (fun _ => ?_)
  refine T_auto TT_ok rfl ?_
  refine RJ_C TT_ok (Con.sw 901 591 (Con.sw 902 592 (toTx_m t h1 h2))) rfl rfl (SVs.imp_refl _) (fun _ => rfl) rfl rfl rfl fun _ _ => ?_
  refine RJ_auto TT_ok rfl ?_
  refine RJ_C TT_ok (Con.sw 900 61 (impl_Checks_m t h1 h2)) rfl rfl (SVs.imp_refl _) (fun _ => rfl) rfl rfl rfl fun _ _ => ?_
  refine RJ_auto TT_ok rfl ?_
  refine RJ_Q TT_ok (eqNoteS_q _ h3) rfl rfl rfl rfl rfl ?_
  refine T_cond rfl (fun e => by cases e) (fun _ => ?_)
  refine T_auto TT_ok rfl ?_
  refine RJ_Q TT_ok (heldNoteS_q _ h3 1 (by decide) (by decide)) rfl rfl rfl rfl rfl ?_
  refine T_condD rfl (fun e => by omega) (fun _ => ?_)
  refine T_auto TT_ok rfl ?_
  refine T_condN rfl (fun e => absurd rfl e) (fun _ => ?_)
  refine T_auto TT_ok rfl ?_
  exact T_ansB TT_ok [(2, none)] rfl rfl (rfl)
end Go.Proofs.Ytiilpopeognekaa
