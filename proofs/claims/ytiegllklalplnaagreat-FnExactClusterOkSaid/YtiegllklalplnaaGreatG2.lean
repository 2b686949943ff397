
/-
  The laws' helpers, at transactions.
-/
import Derived.Test.YtiegllklalplnaaGreatG1
import Derived.Test.YtiegllklalplnaaGreatP2
namespace Go.Proofs.YtiegllklalplnaaGreat
open Go Go.RowKit
set_option linter.unusedVariables false
set_option linter.unusedSimpArgs false
set_option maxRecDepth 4000

def szTxI (t : GTx) (l : Int) : Int := if szI l t.reads.length < 0 then -1 else if szI (szI l t.reads.length) t.sets.length < 0 then -1 else szI (szI l t.reads.length) t.sets.length
theorem szTxI_pos {t : GTx} {l : Int} (h : ¬ szTxI t l < 0) : (t.reads.length : Int) ≤ l ∧ (t.sets.length : Int) ≤ l := by
  unfold szTxI szI at h
  split at h
  · omega
  · split at h <;> omega
theorem szTx_q (t : GTx) (h1 : t.reads.length ≤ maxL) (h2 : t.sets.length ≤ maxL) : Ans Tryz.prog 103 [] [vR (cTx t), vI 1048576] [] (vI (szTxI t 1048576)) := by
  refine con_enter Tryz.func103 rfl rfl rfl fun B0 r D w0 => ?_
  refine T_auto TT_ok rfl ?_
  refine RJ_Q TT_ok (szNoteS_q _ h1 _ (by decide) (by decide)) rfl rfl rfl rfl rfl ?_
  refine T_condD rfl (fun e => ?_) (fun e => ?_)
  · refine T_auto TT_ok rfl ?_
    exact T_ansI TT_ok [(4, none)] rfl rfl (by rw [szTxI, if_pos e])
  have hle : szI 1048576 t.reads.length ≤ 1048576 := by unfold szI; split <;> omega
  refine T_auto TT_ok rfl ?_
  refine RJ_Q TT_ok (szSetS_q _ h2 _ (by omega) hle) rfl rfl rfl rfl rfl ?_
  refine T_condD rfl (fun e2 => ?_) (fun e2 => ?_)
  · refine T_auto TT_ok rfl ?_
    exact T_ansI TT_ok [(4, none)] rfl rfl (by rw [szTxI, if_neg e, if_pos e2])
  · refine T_auto TT_ok rfl ?_
    exact T_ansI TT_ok [(4, none)] rfl rfl (by rw [szTxI, if_neg e, if_neg e2])
/-- a transaction whose parts are own arrays -/
abbrev agTx (t : GTx) (k1 k2 : Nat) : SV := .ag [.v (.int .i64 t.id), .v (.int .i64 t.home), .v (.int .i64 t.phase), .v (.int .i64 t.done), .g k1, .g k2, .v (.int .i64 t.stamp)]
theorem toTx_m (t : GTx) (h1 : t.reads.length ≤ 1048576) (h2 : t.sets.length ≤ 1048576) : Con Tryz.prog 115 [] [vR (cTx t)] [] (fun _ : Unit => True) (fun _ => [agTx t 901 902]) fun _ => [(901, arrC 5 cNote GNote.z t.reads), (902, arrC 5 cSet GSet.z t.sets)] := by
  refine con_enter Tryz.func115 rfl rfl rfl fun B0 r D w0 => ?_
  refine T_auto TT_ok rfl ?_
  refine RJ_C TT_ok (Con.sw 900 901 (toNoteS_m t.reads h1)) rfl rfl (SVs.imp_refl _) (fun _ => rfl) rfl rfl rfl fun _ _ => ?_
  refine RJ_auto TT_ok rfl ?_
  refine RJ_C TT_ok (Con.sw 900 902 (toSetS_m t.sets h2)) rfl rfl (SVs.imp_refl _) (fun _ => rfl) rfl rfl rfl fun _ _ => ?_
  refine RJ_auto TT_ok rfl ?_
  refine T_ret TT_ok (()) [(2, some 54)] rfl rfl ?_ ?_ ?_
  · exact SVs.imp_refl _
  · exact ⟨⟨_, rfl, Ch.imp_refl _⟩, ⟨_, rfl, Ch.imp_refl _⟩, trivial⟩
  · trivial
theorem eqTx_q (t : GTx) (h1 : t.reads.length ≤ 1048576) (h2 : t.sets.length ≤ 1048576) : Ans Tryz.prog 36 [] [vR (cTx t), vR (cTx t)] [] (vB true) := by
  refine con_enter Tryz.func36 rfl rfl rfl fun B0 r D w0 => ?_
  refine T_auto TT_ok rfl ?_
  refine T_condN rfl (fun e => absurd rfl e) (fun _ => ?_)
  refine T_auto TT_ok rfl ?_
  refine T_condN rfl (fun e => absurd rfl e) (fun _ => ?_)
  refine T_auto TT_ok rfl ?_
  refine T_condN rfl (fun e => absurd rfl e) (fun _ => ?_)
  refine T_auto TT_ok rfl ?_
  refine T_condN rfl (fun e => absurd rfl e) (fun _ => ?_)
  refine T_auto TT_ok rfl ?_
  refine RJ_Q TT_ok (eqNoteS_q _ h1) rfl rfl rfl rfl rfl ?_
  refine T_cond rfl (fun e => by cases e) (fun _ => ?_)
  refine T_auto TT_ok rfl ?_
  refine RJ_Q TT_ok (eqSetS_q _ h2) rfl rfl rfl rfl rfl ?_
  refine T_cond rfl (fun e => by cases e) (fun _ => ?_)
  refine T_auto TT_ok rfl ?_
  refine T_condN rfl (fun e => absurd rfl e) (fun _ => ?_)
  refine T_auto TT_ok rfl ?_
  exact T_ansB TT_ok [(4, none)] rfl rfl (rfl)
theorem markTx_c (t : GTx) (h1 : t.reads.length ≤ 1048576) (h2 : t.sets.length ≤ 1048576) (k0 : Int) (h3 : 0 ≤ k0) (h4 : k0 ≤ 1000000000) : Con Tryz.prog 37 [901, 902] [agTx t 901 902, vI k0] [(901, arrC 5 cNote GNote.z t.reads), (902, arrC 5 cSet GSet.z t.sets)] (fun _ : Unit => True) (fun _ => [vI (k0 + 5 * t.reads.length + 5 * t.sets.length)])
    fun _ => [(901, .arr 5 t.reads.length fun j => cNote (mkNote (k0 + 5 * j))), (902, .arr 5 t.sets.length fun j => cSet (mkSet (k0 + 5 * t.reads.length + 5 * j)))] := by
  refine con_enter Tryz.func37 rfl rfl rfl fun B0 r D w0 => ?_
  refine T_auto TT_ok rfl ?_
  refine RJ_C TT_ok (Con.sw 900 901 (markNoteS_c t.reads h1 k0 h3 (by omega))) rfl rfl (SVs.imp_refl _) (fun _ => rfl) rfl rfl rfl fun _ _ => ?_
  refine RJ_auto TT_ok rfl ?_
  refine RJ_C TT_ok (Con.sw 900 902 (markSetS_c t.sets h2 (k0 + 5 * t.reads.length) (by omega) (by omega))) rfl rfl (SVs.imp_refl _) (fun _ => rfl) rfl rfl rfl fun _ _ => ?_
  refine RJ_auto TT_ok rfl ?_
  refine T_ret TT_ok (()) [(4, none)] rfl rfl ?_ ?_ ?_
  · exact SVs.imp_refl _
  · exact ⟨⟨_, rfl, Ch.imp_refl _⟩, ⟨_, rfl, Ch.imp_refl _⟩, trivial⟩
  · trivial
end Go.Proofs.YtiegllklalplnaaGreat
