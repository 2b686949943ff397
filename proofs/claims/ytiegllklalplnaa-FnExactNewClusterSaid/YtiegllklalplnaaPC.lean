
/-
  What a transaction's Sets are at a region; what it wants; what it checks.
  Functions of package slices, at the program's element types.
  The program's side: Sets at a region.
-/
import Derived.Test.YtiegllklalplnaaPA
namespace Go.Proofs.Ytiegllklalplnaa
open Go Go.RowKit
set_option linter.unusedVariables false
set_option linter.unusedSimpArgs false

section
set_option maxRecDepth 4000

def setsAt (r : Int) (xs : List GSet) : List GSet := xs.filter fun s => s.region == r
end

section
set_option maxRecDepth 4000

theorem cloneSet_m (xs : List GSet) (hl : xs.length ≤ 1048576) : MkL Try.prog 67 [vL 5 cSet GSet.z xs] 5 cSet GSet.z xs := by
  refine con_enter Try.func67 rfl rfl rfl fun B0 r_ D_ w0 => ?_
  refine T_auto TT_ok rfl ?_
  refine RJ_nil TT_ok false rfl rfl rfl rfl rfl rfl fun b hb => ?_
  refine RJ_auto TT_ok rfl ?_
  refine T_cond rfl (fun e => ?_) (fun e => ?_)
  · have h0 := hb e
    refine T_auto TT_ok rfl ?_
    refine T_view (V_nil 2 900 5 (fun i => cSet (([] : List GSet).getD i GSet.z)) rfl rfl rfl rfl) ?_
    refine T_ret TT_ok (()) [(2, none)] rfl rfl ?_ ?_ ?_
    · exact SVs.imp_refl _
    · exact ⟨⟨_, rfl, imp_list (List.length_eq_zero_iff.1 h0).symm⟩, trivial⟩
    · trivial
  · refine T_auto TT_ok rfl ?_
    refine RJ_bs TT_ok 5 (fun i => cSet (([] : List GSet).getD i GSet.z)) rfl rfl rfl rfl rfl rfl rfl (fun i hi => absurd hi (Nat.not_lt_zero _)) (mu1 := []) rfl rfl rfl ?_
    refine RJ_auto TT_ok rfl ?_
    refine RJ_appC TT_ok 5 900 rfl rfl rfl rfl rfl rfl rfl rfl rfl rfl rfl rfl ⟨by simp; omega, by unfold maxL; omega⟩ ?_
    refine RJ_auto TT_ok rfl ?_
    refine T_ret TT_ok (()) [(2, none)] rfl rfl ?_ ?_ ?_
    · exact SVs.imp_refl _
    · exact ⟨⟨_, rfl, imp_app (ys := ([] : List GSet)) (by simp)⟩, trivial⟩
    · trivial
theorem cloneNote_m (xs : List GNote) (hl : xs.length ≤ 1048576) : MkL Try.prog 66 [vL 5 cNote GNote.z xs] 5 cNote GNote.z xs := by
  refine con_enter Try.func66 rfl rfl rfl fun B0 r_ D_ w0 => ?_
  refine T_auto TT_ok rfl ?_
  refine RJ_nil TT_ok false rfl rfl rfl rfl rfl rfl fun b hb => ?_
  refine RJ_auto TT_ok rfl ?_
  refine T_cond rfl (fun e => ?_) (fun e => ?_)
  · have h0 := hb e
    refine T_auto TT_ok rfl ?_
    refine T_view (V_nil 2 900 5 (fun i => cNote (([] : List GNote).getD i GNote.z)) rfl rfl rfl rfl) ?_
    refine T_ret TT_ok (()) [(2, none)] rfl rfl ?_ ?_ ?_
    · exact SVs.imp_refl _
    · exact ⟨⟨_, rfl, imp_list (List.length_eq_zero_iff.1 h0).symm⟩, trivial⟩
    · trivial
  · refine T_auto TT_ok rfl ?_
    refine RJ_bs TT_ok 5 (fun i => cNote (([] : List GNote).getD i GNote.z)) rfl rfl rfl rfl rfl rfl rfl (fun i hi => absurd hi (Nat.not_lt_zero _)) (mu1 := []) rfl rfl rfl ?_
    refine RJ_auto TT_ok rfl ?_
    refine RJ_appC TT_ok 5 900 rfl rfl rfl rfl rfl rfl rfl rfl rfl rfl rfl rfl ⟨by simp; omega, by unfold maxL; omega⟩ ?_
    refine RJ_auto TT_ok rfl ?_
    refine T_ret TT_ok (()) [(2, none)] rfl rfl ?_ ?_ ?_
    · exact SVs.imp_refl _
    · exact ⟨⟨_, rfl, imp_app (ys := ([] : List GNote)) (by simp)⟩, trivial⟩
    · trivial
end

section
set_option maxRecDepth 4000

open Classical in
noncomputable def setsOfM (t : GTx) (r0 : Int) : List GSet := if TxOk t then setsAt r0 t.sets else []
end
end Go.Proofs.Ytiegllklalplnaa
