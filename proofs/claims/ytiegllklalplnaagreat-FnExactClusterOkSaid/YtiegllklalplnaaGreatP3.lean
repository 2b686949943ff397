
/-
  What a transaction's Sets are at a region; what it wants; what it checks.
-/
import Derived.Test.YtiegllklalplnaaGreatP2
namespace Go.Proofs.YtiegllklalplnaaGreat
open Go Go.RowKit
set_option linter.unusedVariables false
set_option linter.unusedSimpArgs false
set_option maxRecDepth 4000

def setsAt (r : Int) (xs : List GSet) : List GSet := xs.filter fun s => s.region == r
theorem l7SetsOf_m (t : GTx) (r0 : Int) (hl : t.sets.length ≤ 1048576) : MkL Tryz.prog 65 [vR (cTx t), vI r0] 5 cSet GSet.z (setsAt r0 t.sets) := by
  refine con_enter Tryz.func65 rfl rfl rfl fun B0 r D w0 => ?_
  refine T_auto TT_ok rfl ?_
  refine RJ_bs TT_ok 7 (fun i => cSet (([] : List GSet).getD i GSet.z)) rfl rfl rfl rfl rfl rfl rfl (fun i hi => absurd hi (Nat.not_lt_zero _)) (mu1 := []) rfl rfl rfl ?_
  refine RJ_auto TT_ok rfl ?_
  refine T_loopA (ι := Nat) (fun i => [(6, vI i), (5, .a (.g 7))]) (fun i => [(7, arrC 5 cSet GSet.z ((t.sets.take i).filter fun s => s.region == r0))]) (fun i => i ≤ t.sets.length) (fun i => t.sets.length - i) 0 [7] [7] rfl rfl (Nat.zero_le _) (by repeat (first | exact trivial | refine And.intro ⟨_, rfl, SV.imp_refl _⟩ ?_)) (by repeat (first | exact trivial | refine And.intro ⟨_, rfl, Ch.imp_refl _⟩ ?_)) ?_
  intro i h1
  refine T_auto TT_ok rfl ?_
  refine T_condD rfl (fun e => ?_) (fun e => ?_)
  · have hi : i < t.sets.length := by omega
    have hle := filter_take_len t.sets (fun s => s.region == r0) i
    refine T_auto TT_ok rfl ?_
    refine T_condE rfl (fun e2 => ?_) (fun e2 => ?_)
    · refine T_auto TT_ok rfl ?_
      refine RJ_bs TT_ok 29 (fun _ => cSet (t.sets.getD i GSet.z)) rfl rfl rfl rfl rfl rfl rfl (fun i hi => by rcases i with _ | i <;> first | rfl | omega) (mu1 := []) rfl rfl rfl ?_
      refine RJ_auto TT_ok rfl ?_
      refine RJ_appM TT_ok 7 29 30 rfl rfl rfl rfl rfl rfl rfl rfl rfl rfl rfl rfl ⟨by simp; omega, by unfold maxL; omega⟩ ?_
      refine RJ_auto TT_ok rfl ?_
      refine X_view (V_sw 7 30) ?_
      exact X_inv (i + 1) hi (by omega) (by repeat (first | exact trivial | refine And.intro ⟨_, rfl, SV.imp_refl _⟩ ?_)) ⟨⟨_, rfl, imp_app1 (filter_take_yes hi (by simpa using e2)) rfl⟩, (by repeat (first | exact trivial | refine And.intro ⟨_, rfl, Ch.imp_refl _⟩ ?_))⟩
    · refine T_auto TT_ok rfl ?_
      exact X_inv (i + 1) hi (by omega) (by repeat (first | exact trivial | refine And.intro ⟨_, rfl, SV.imp_refl _⟩ ?_)) ⟨⟨_, rfl, imp_list (filter_take_no hi (by simpa using e2))⟩, (by repeat (first | exact trivial | refine And.intro ⟨_, rfl, Ch.imp_refl _⟩ ?_))⟩
  · have hi : i = t.sets.length := by omega
    subst hi
    refine T_auto TT_ok rfl ?_
    refine T_view (V_sw 7 900) ?_
    refine T_ret TT_ok (()) [(4, none)] rfl rfl ?_ ?_ ?_
    · exact SVs.imp_refl _
    · exact ⟨⟨_, rfl, imp_list (by rw [List.take_length]; rfl)⟩, trivial⟩
    · trivial
end Go.Proofs.YtiegllklalplnaaGreat
