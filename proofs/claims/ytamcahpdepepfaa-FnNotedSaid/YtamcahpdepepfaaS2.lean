
/-
  Functions of package slices, at further element types.
-/
import Derived.Test.YtamcahpdepepfaaP9
namespace Go.Proofs.Ytamcahpdepepfaa
open Go Go.RowKit
set_option linter.unusedVariables false
set_option linter.unusedSimpArgs false
set_option maxRecDepth 4000

theorem any_at {α : Type} {p : α → Bool} {z : α} {xs : List α} {i : Nat} (hi : i < xs.length) (h : p (xs.getD i z) = true) : xs.any p = true := List.any_eq_true.2 ⟨xs.getD i z, by simp [hi], h⟩
theorem any_no {α : Type} {p : α → Bool} {z : α} {xs : List α} (h : ∀ j, j < xs.length → p (xs.getD j z) = false) : xs.any p = false := by
  rw [List.any_eq_false]
  intro x hx
  obtain ⟨a, ha, rfl⟩ := List.mem_iff_getElem.1 hx
  have := h a ha
  simp [ha] at this
  simp [this]
theorem any_get {α : Type} {p : α → Bool} {z : α} {xs : List α} (h : xs.any p = false) : ∀ j, j < xs.length → p (xs.getD j z) = false := fun j hj => by
  rw [List.any_eq_false] at h
  have := h (xs.getD j z) (by simp [hj])
  simpa using this
theorem idxI_any {α : Type} (p : α → Bool) (z : α) (xs : List α) : decide (idxI p xs ≥ 0) = xs.any p := by
  rcases idxI_cases p z xs with ⟨h1, h2⟩ | ⟨i, h1, h2, h3, h4⟩
  · rw [any_no h2, h1]; rfl
  · rw [any_at h1 h4, h2]; simp

theorem imp_fbO {P : Program} {α : Type} {rd : α → List RD} (p : α → Bool) : (fbO rd fun x => .bool (p x)).imp P (fbP (fun _ => True) rd fun x => .bool (p x)) := by
  intro B Z y ⟨f, vs, h1, h2⟩
  refine ⟨f, vs, h1, h2.1, fun args x ⟨a, _, e1, e2⟩ => h2.2 args x ⟨a, e1, e2⟩⟩

theorem indexFuncSet_p (xs : List GSet) (hl : xs.length ≤ 1048576) (S : GSet → Prop) (hS : ∀ i, i < xs.length → S (xs.getD i GSet.z)) (p : GSet → Bool) : Ans Try.prog 82 [] [vL 5 cSet GSet.z xs, fbP S (fun x => [RD.ag (cSet x)]) fun x => .bool (p x)] [] (vI (idxI p xs)) := by
  refine con_enter Try.func82 rfl rfl rfl fun B0 r_ D_ w0 => ?_
  refine T_auto TT_ok rfl ?_
  refine T_loopA (ι := Nat) (fun i => [(8, vI i)]) (fun _ => []) (fun i => i ≤ xs.length ∧ ∀ j, j < i → p (xs.getD j GSet.z) = false) (fun i => xs.length - i) 0 [] [] rfl rfl ⟨Nat.zero_le _, fun j hj => absurd hj (Nat.not_lt_zero _)⟩ (by repeat (first | exact trivial | refine And.intro ⟨_, rfl, SV.imp_refl _⟩ ?_)) (by repeat (first | exact trivial | refine And.intro ⟨_, rfl, Ch.imp_refl _⟩ ?_)) ?_
  intro i ⟨h1, h2⟩
  refine T_auto TT_ok rfl ?_
  refine T_condD rfl (fun e => ?_) (fun e => ?_)
  · have hi : i < xs.length := by omega
    refine T_auto TT_ok rfl ?_
    refine RJ_F rfl rfl rfl ⟨xs.getD i GSet.z, hS i hi, rfl, rfl⟩ ?_
    refine RJ_auto TT_ok rfl ?_
    refine T_cond rfl (fun e2 => ?_) (fun e2 => ?_)
    · refine T_auto TT_ok rfl ?_
      exact T_ansI TT_ok [(4, none)] rfl rfl ((idxI_at hi h2 e2).symm)
    · refine T_auto TT_ok rfl ?_
      exact X_inv (i + 1) ⟨hi, before_succ h2 e2⟩ (by omega) (by repeat (first | exact trivial | refine And.intro ⟨_, rfl, SV.imp_refl _⟩ ?_)) (by repeat (first | exact trivial | refine And.intro ⟨_, rfl, Ch.imp_refl _⟩ ?_))
  · refine T_auto TT_ok rfl ?_
    exact T_ansI TT_ok [(4, none)] rfl rfl ((idxI_no fun j hj => h2 j (by omega)).symm)
theorem indexFuncNote_p (xs : List GNote) (hl : xs.length ≤ 1048576) (S : GNote → Prop) (hS : ∀ i, i < xs.length → S (xs.getD i GNote.z)) (p : GNote → Bool) : Ans Try.prog 79 [] [vL 5 cNote GNote.z xs, fbP S (fun x => [RD.ag (cNote x)]) fun x => .bool (p x)] [] (vI (idxI p xs)) := by
  refine con_enter Try.func79 rfl rfl rfl fun B0 r_ D_ w0 => ?_
  refine T_auto TT_ok rfl ?_
  refine T_loopA (ι := Nat) (fun i => [(8, vI i)]) (fun _ => []) (fun i => i ≤ xs.length ∧ ∀ j, j < i → p (xs.getD j GNote.z) = false) (fun i => xs.length - i) 0 [] [] rfl rfl ⟨Nat.zero_le _, fun j hj => absurd hj (Nat.not_lt_zero _)⟩ (by repeat (first | exact trivial | refine And.intro ⟨_, rfl, SV.imp_refl _⟩ ?_)) (by repeat (first | exact trivial | refine And.intro ⟨_, rfl, Ch.imp_refl _⟩ ?_)) ?_
  intro i ⟨h1, h2⟩
  refine T_auto TT_ok rfl ?_
  refine T_condD rfl (fun e => ?_) (fun e => ?_)
  · have hi : i < xs.length := by omega
    refine T_auto TT_ok rfl ?_
    refine RJ_F rfl rfl rfl ⟨xs.getD i GNote.z, hS i hi, rfl, rfl⟩ ?_
    refine RJ_auto TT_ok rfl ?_
    refine T_cond rfl (fun e2 => ?_) (fun e2 => ?_)
    · refine T_auto TT_ok rfl ?_
      exact T_ansI TT_ok [(4, none)] rfl rfl ((idxI_at hi h2 e2).symm)
    · refine T_auto TT_ok rfl ?_
      exact X_inv (i + 1) ⟨hi, before_succ h2 e2⟩ (by omega) (by repeat (first | exact trivial | refine And.intro ⟨_, rfl, SV.imp_refl _⟩ ?_)) (by repeat (first | exact trivial | refine And.intro ⟨_, rfl, Ch.imp_refl _⟩ ?_))
  · refine T_auto TT_ok rfl ?_
    exact T_ansI TT_ok [(4, none)] rfl rfl ((idxI_no fun j hj => h2 j (by omega)).symm)
end Go.Proofs.Ytamcahpdepepfaa
