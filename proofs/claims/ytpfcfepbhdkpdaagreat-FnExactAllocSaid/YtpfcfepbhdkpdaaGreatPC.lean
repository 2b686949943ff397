
/-
  What a transaction's Sets are at a region; what it wants; what it checks.
  Functions of package slices, at the program's element types.
  The program's side: Sets at a region.
-/
import Derived.Test.YtpfcfepbhdkpdaaGreatPA
namespace Go.Proofs.YtpfcfepbhdkpdaaGreat
open Go Go.RowKit
set_option linter.unusedVariables false
set_option linter.unusedSimpArgs false

section
set_option maxRecDepth 4000

def setsAt (r : Int) (xs : List GSet) : List GSet := xs.filter fun s => s.region == r
end

section
set_option maxRecDepth 4000

theorem indexFuncSet_q (xs : List GSet) (hl : xs.length ≤ 1048576) (p : GSet → Bool) : Ans Tryz.prog 148 [] [vL 5 cSet GSet.z xs, fbO (fun x => [RD.ag (cSet x)]) fun x => .bool (p x)] [] (vI (idxI p xs)) := by
  refine con_enter Tryz.func148 rfl rfl rfl fun B0 r_ D_ w0 => ?_
  refine T_auto TT_ok rfl ?_
  refine T_loopA (ι := Nat) (fun i => [(8, vI i)]) (fun _ => []) (fun i => i ≤ xs.length ∧ ∀ j, j < i → p (xs.getD j GSet.z) = false) (fun i => xs.length - i) 0 [] [] rfl rfl ⟨Nat.zero_le _, fun j hj => absurd hj (Nat.not_lt_zero _)⟩ (by repeat (first | exact trivial | refine And.intro ⟨_, rfl, SV.imp_refl _⟩ ?_)) (by repeat (first | exact trivial | refine And.intro ⟨_, rfl, Ch.imp_refl _⟩ ?_)) ?_
  intro i ⟨h1, h2⟩
  refine T_auto TT_ok rfl ?_
  refine T_condD rfl (fun e => ?_) (fun e => ?_)
  · have hi : i < xs.length := by omega
    refine T_auto TT_ok rfl ?_
    refine RJ_F rfl rfl rfl ⟨xs.getD i GSet.z, rfl, rfl⟩ ?_
    refine RJ_auto TT_ok rfl ?_
    refine T_cond rfl (fun e2 => ?_) (fun e2 => ?_)
    · refine T_auto TT_ok rfl ?_
      exact T_ansI TT_ok [(4, none)] rfl rfl ((idxI_at hi h2 e2).symm)
    · refine T_auto TT_ok rfl ?_
      exact X_inv (i + 1) ⟨hi, before_succ h2 e2⟩ (by omega) (by repeat (first | exact trivial | refine And.intro ⟨_, rfl, SV.imp_refl _⟩ ?_)) (by repeat (first | exact trivial | refine And.intro ⟨_, rfl, Ch.imp_refl _⟩ ?_))
  · refine T_auto TT_ok rfl ?_
    exact T_ansI TT_ok [(4, none)] rfl rfl ((idxI_no fun j hj => h2 j (by omega)).symm)
theorem cloneSet_m (xs : List GSet) (hl : xs.length ≤ 1048576) : MkL Tryz.prog 152 [vL 5 cSet GSet.z xs] 5 cSet GSet.z xs := by
  refine con_enter Tryz.func152 rfl rfl rfl fun B0 r_ D_ w0 => ?_
  refine T_auto TT_ok rfl ?_
  refine RJ_nil TT_ok false rfl rfl rfl rfl rfl rfl fun b hb => ?_
  refine RJ_auto TT_ok rfl ?_
  refine T_cond rfl (fun e => ?_) (fun e => ?_)
  · have h0 := hb e
    refine T_auto TT_ok rfl ?_
    refine T_view (V_nil 2 900 5 (fun i => cSet (([] : List GSet).getD i GSet.z)) rfl rfl rfl rfl) ?_
    refine T_ret TT_ok (()) [(2, none)] rfl rfl ?_ ?_ ?_
    · exact SVs.imp_refl _
    · exact ⟨⟨_, rfl, imp_list (List.length_eq_zero_iff.1 h0).symm⟩, trivial⟩
    · trivial
  · refine T_auto TT_ok rfl ?_
    refine RJ_bs TT_ok 5 (fun i => cSet (([] : List GSet).getD i GSet.z)) rfl rfl rfl rfl rfl rfl rfl (fun i hi => absurd hi (Nat.not_lt_zero _)) (mu1 := []) rfl rfl rfl ?_
    refine RJ_auto TT_ok rfl ?_
    refine RJ_appC TT_ok 5 900 rfl rfl rfl rfl rfl rfl rfl rfl rfl rfl rfl rfl ⟨by simp; omega, by unfold maxL; omega⟩ ?_
    refine RJ_auto TT_ok rfl ?_
    refine T_ret TT_ok (()) [(2, none)] rfl rfl ?_ ?_ ?_
    · exact SVs.imp_refl _
    · exact ⟨⟨_, rfl, imp_app (ys := ([] : List GSet)) (by simp)⟩, trivial⟩
    · trivial
theorem indexFuncNote_q (xs : List GNote) (hl : xs.length ≤ 1048576) (p : GNote → Bool) : Ans Tryz.prog 147 [] [vL 5 cNote GNote.z xs, fbO (fun x => [RD.ag (cNote x)]) fun x => .bool (p x)] [] (vI (idxI p xs)) := by
  refine con_enter Tryz.func147 rfl rfl rfl fun B0 r_ D_ w0 => ?_
  refine T_auto TT_ok rfl ?_
  refine T_loopA (ι := Nat) (fun i => [(8, vI i)]) (fun _ => []) (fun i => i ≤ xs.length ∧ ∀ j, j < i → p (xs.getD j GNote.z) = false) (fun i => xs.length - i) 0 [] [] rfl rfl ⟨Nat.zero_le _, fun j hj => absurd hj (Nat.not_lt_zero _)⟩ (by repeat (first | exact trivial | refine And.intro ⟨_, rfl, SV.imp_refl _⟩ ?_)) (by repeat (first | exact trivial | refine And.intro ⟨_, rfl, Ch.imp_refl _⟩ ?_)) ?_
  intro i ⟨h1, h2⟩
  refine T_auto TT_ok rfl ?_
  refine T_condD rfl (fun e => ?_) (fun e => ?_)
  · have hi : i < xs.length := by omega
    refine T_auto TT_ok rfl ?_
    refine RJ_F rfl rfl rfl ⟨xs.getD i GNote.z, rfl, rfl⟩ ?_
    refine RJ_auto TT_ok rfl ?_
    refine T_cond rfl (fun e2 => ?_) (fun e2 => ?_)
    · refine T_auto TT_ok rfl ?_
      exact T_ansI TT_ok [(4, none)] rfl rfl ((idxI_at hi h2 e2).symm)
    · refine T_auto TT_ok rfl ?_
      exact X_inv (i + 1) ⟨hi, before_succ h2 e2⟩ (by omega) (by repeat (first | exact trivial | refine And.intro ⟨_, rfl, SV.imp_refl _⟩ ?_)) (by repeat (first | exact trivial | refine And.intro ⟨_, rfl, Ch.imp_refl _⟩ ?_))
  · refine T_auto TT_ok rfl ?_
    exact T_ansI TT_ok [(4, none)] rfl rfl ((idxI_no fun j hj => h2 j (by omega)).symm)
theorem cloneNote_m (xs : List GNote) (hl : xs.length ≤ 1048576) : MkL Tryz.prog 151 [vL 5 cNote GNote.z xs] 5 cNote GNote.z xs := by
  refine con_enter Tryz.func151 rfl rfl rfl fun B0 r_ D_ w0 => ?_
  refine T_auto TT_ok rfl ?_
  refine RJ_nil TT_ok false rfl rfl rfl rfl rfl rfl fun b hb => ?_
  refine RJ_auto TT_ok rfl ?_
  refine T_cond rfl (fun e => ?_) (fun e => ?_)
  · have h0 := hb e
    refine T_auto TT_ok rfl ?_
    refine T_view (V_nil 2 900 5 (fun i => cNote (([] : List GNote).getD i GNote.z)) rfl rfl rfl rfl) ?_
    refine T_ret TT_ok (()) [(2, none)] rfl rfl ?_ ?_ ?_
    · exact SVs.imp_refl _
    · exact ⟨⟨_, rfl, imp_list (List.length_eq_zero_iff.1 h0).symm⟩, trivial⟩
    · trivial
  · refine T_auto TT_ok rfl ?_
    refine RJ_bs TT_ok 5 (fun i => cNote (([] : List GNote).getD i GNote.z)) rfl rfl rfl rfl rfl rfl rfl (fun i hi => absurd hi (Nat.not_lt_zero _)) (mu1 := []) rfl rfl rfl ?_
    refine RJ_auto TT_ok rfl ?_
    refine RJ_appC TT_ok 5 900 rfl rfl rfl rfl rfl rfl rfl rfl rfl rfl rfl rfl ⟨by simp; omega, by unfold maxL; omega⟩ ?_
    refine RJ_auto TT_ok rfl ?_
    refine T_ret TT_ok (()) [(2, none)] rfl rfl ?_ ?_ ?_
    · exact SVs.imp_refl _
    · exact ⟨⟨_, rfl, imp_app (ys := ([] : List GNote)) (by simp)⟩, trivial⟩
    · trivial
end

section
set_option maxRecDepth 4000

open Classical in
noncomputable def setsOfM (t : GTx) (r0 : Int) : List GSet := if TxOk t then setsAt r0 t.sets else []
end
end Go.Proofs.YtpfcfepbhdkpdaaGreat
