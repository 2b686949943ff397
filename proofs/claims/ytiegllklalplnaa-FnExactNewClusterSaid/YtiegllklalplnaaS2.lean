
/-
  Functions of package slices, at further element types.
-/
import Derived.Test.YtiegllklalplnaaP9
namespace Go.Proofs.Ytiegllklalplnaa
open Go Go.RowKit
set_option linter.unusedVariables false
set_option linter.unusedSimpArgs false
set_option maxRecDepth 4000

theorem any_at {α : Type} {p : α → Bool} {z : α} {xs : List α} {i : Nat} (hi : i < xs.length) (h : p (xs.getD i z) = true) : xs.any p = true := List.any_eq_true.2 ⟨xs.getD i z, by simp [hi], h⟩
theorem any_no {α : Type} {p : α → Bool} {z : α} {xs : List α} (h : ∀ j, j < xs.length → p (xs.getD j z) = false) : xs.any p = false := by
  rw [List.any_eq_false]
  intro x hx
  obtain ⟨a, ha, rfl⟩ := List.mem_iff_getElem.1 hx
  have := h a ha
  simp [ha] at this
  simp [this]
theorem any_get {α : Type} {p : α → Bool} {z : α} {xs : List α} (h : xs.any p = false) : ∀ j, j < xs.length → p (xs.getD j z) = false := fun j hj => by
  rw [List.any_eq_false] at h
  have := h (xs.getD j z) (by simp [hj])
  simpa using this
theorem idxI_any {α : Type} (p : α → Bool) (z : α) (xs : List α) : decide (idxI p xs ≥ 0) = xs.any p := by
  rcases idxI_cases p z xs with ⟨h1, h2⟩ | ⟨i, h1, h2, h3, h4⟩
  · rw [any_no h2, h1]; rfl
  · rw [any_at h1 h4, h2]; simp

theorem imp_fbO {P : Program} {α : Type} {rd : α → List RD} (p : α → Bool) : (fbO rd fun x => .bool (p x)).imp P (fbP (fun _ => True) rd fun x => .bool (p x)) := by
  intro B Z y ⟨f, vs, h1, h2⟩
  refine ⟨f, vs, h1, h2.1, fun args x ⟨a, _, e1, e2⟩ => h2.2 args x ⟨a, e1, e2⟩⟩

theorem cloneCell_m (xs : List GCell) (hl : xs.length ≤ 1048576) : MkL Try.prog 103 [vL 2 cCell GCell.z xs] 2 cCell GCell.z xs := by
  refine con_enter Try.func103 rfl rfl rfl fun B0 r_ D_ w0 => ?_
  refine T_auto TT_ok rfl ?_
  refine RJ_nil TT_ok false rfl rfl rfl rfl rfl rfl fun b hb => ?_
  refine RJ_auto TT_ok rfl ?_
  refine T_cond rfl (fun e => ?_) (fun e => ?_)
  · have h0 := hb e
    refine T_auto TT_ok rfl ?_
    refine T_view (V_nil 2 900 2 (fun i => cCell (([] : List GCell).getD i GCell.z)) rfl rfl rfl rfl) ?_
    refine T_ret TT_ok (()) [(2, none)] rfl rfl ?_ ?_ ?_
    · exact SVs.imp_refl _
    · exact ⟨⟨_, rfl, imp_list (List.length_eq_zero_iff.1 h0).symm⟩, trivial⟩
    · trivial
  · refine T_auto TT_ok rfl ?_
    refine RJ_bs TT_ok 5 (fun i => cCell (([] : List GCell).getD i GCell.z)) rfl rfl rfl rfl rfl rfl rfl (fun i hi => absurd hi (Nat.not_lt_zero _)) (mu1 := []) rfl rfl rfl ?_
    refine RJ_auto TT_ok rfl ?_
    refine RJ_appC TT_ok 5 900 rfl rfl rfl rfl rfl rfl rfl rfl rfl rfl rfl rfl ⟨by simp; omega, by unfold maxL; omega⟩ ?_
    refine RJ_auto TT_ok rfl ?_
    refine T_ret TT_ok (()) [(2, none)] rfl rfl ?_ ?_ ?_
    · exact SVs.imp_refl _
    · exact ⟨⟨_, rfl, imp_app (ys := ([] : List GCell)) (by simp)⟩, trivial⟩
    · trivial
end Go.Proofs.Ytiegllklalplnaa
