
/-
  Functions of package slices, at further element types.
-/
import Derived.Test.YtpfcfepbhdkpdaaGreatP9
namespace Go.Proofs.YtpfcfepbhdkpdaaGreat
open Go Go.RowKit
set_option linter.unusedVariables false
set_option linter.unusedSimpArgs false
set_option maxRecDepth 4000

theorem any_at {α : Type} {p : α → Bool} {z : α} {xs : List α} {i : Nat} (hi : i < xs.length) (h : p (xs.getD i z) = true) : xs.any p = true := List.any_eq_true.2 ⟨xs.getD i z, by simp [hi], h⟩
theorem any_no {α : Type} {p : α → Bool} {z : α} {xs : List α} (h : ∀ j, j < xs.length → p (xs.getD j z) = false) : xs.any p = false := by
  rw [List.any_eq_false]
  intro x hx
  obtain ⟨a, ha, rfl⟩ := List.mem_iff_getElem.1 hx
  have := h a ha
  simp [ha] at this
  simp [this]
theorem any_get {α : Type} {p : α → Bool} {z : α} {xs : List α} (h : xs.any p = false) : ∀ j, j < xs.length → p (xs.getD j z) = false := fun j hj => by
  rw [List.any_eq_false] at h
  have := h (xs.getD j z) (by simp [hj])
  simpa using this
theorem idxI_any {α : Type} (p : α → Bool) (z : α) (xs : List α) : decide (idxI p xs ≥ 0) = xs.any p := by
  rcases idxI_cases p z xs with ⟨h1, h2⟩ | ⟨i, h1, h2, h3, h4⟩
  · rw [any_no h2, h1]; rfl
  · rw [any_at h1 h4, h2]; simp

theorem imp_fbO {P : Program} {α : Type} {rd : α → List RD} (p : α → Bool) : (fbO rd fun x => .bool (p x)).imp P (fbP (fun _ => True) rd fun x => .bool (p x)) := by
  intro B Z y ⟨f, vs, h1, h2⟩
  refine ⟨f, vs, h1, h2.1, fun args x ⟨a, _, e1, e2⟩ => h2.2 args x ⟨a, e1, e2⟩⟩

theorem indexFuncSet_p (xs : List GSet) (hl : xs.length ≤ 1048576) (S : GSet → Prop) (hS : ∀ i, i < xs.length → S (xs.getD i GSet.z)) (p : GSet → Bool) : Ans Tryz.prog 148 [] [vL 5 cSet GSet.z xs, fbP S (fun x => [RD.ag (cSet x)]) fun x => .bool (p x)] [] (vI (idxI p xs)) := by
  refine con_enter Tryz.func148 rfl rfl rfl fun B0 r_ D_ w0 => ?_
  refine T_auto TT_ok rfl ?_
  refine T_loopA (ι := Nat) (fun i => [(8, vI i)]) (fun _ => []) (fun i => i ≤ xs.length ∧ ∀ j, j < i → p (xs.getD j GSet.z) = false) (fun i => xs.length - i) 0 [] [] rfl rfl ⟨Nat.zero_le _, fun j hj => absurd hj (Nat.not_lt_zero _)⟩ (by repeat (first | exact trivial | refine And.intro ⟨_, rfl, SV.imp_refl _⟩ ?_)) (by repeat (first | exact trivial | refine And.intro ⟨_, rfl, Ch.imp_refl _⟩ ?_)) ?_
  intro i ⟨h1, h2⟩
  refine T_auto TT_ok rfl ?_
  refine T_condD rfl (fun e => ?_) (fun e => ?_)
  · have hi : i < xs.length := by omega
    refine T_auto TT_ok rfl ?_
    refine RJ_F rfl rfl rfl ⟨xs.getD i GSet.z, hS i hi, rfl, rfl⟩ ?_
    refine RJ_auto TT_ok rfl ?_
    refine T_cond rfl (fun e2 => ?_) (fun e2 => ?_)
    · refine T_auto TT_ok rfl ?_
      exact T_ansI TT_ok [(4, none)] rfl rfl ((idxI_at hi h2 e2).symm)
    · refine T_auto TT_ok rfl ?_
      exact X_inv (i + 1) ⟨hi, before_succ h2 e2⟩ (by omega) (by repeat (first | exact trivial | refine And.intro ⟨_, rfl, SV.imp_refl _⟩ ?_)) (by repeat (first | exact trivial | refine And.intro ⟨_, rfl, Ch.imp_refl _⟩ ?_))
  · refine T_auto TT_ok rfl ?_
    exact T_ansI TT_ok [(4, none)] rfl rfl ((idxI_no fun j hj => h2 j (by omega)).symm)
theorem containsFuncSet_p (xs : List GSet) (hl : xs.length ≤ 1048576) (S : GSet → Prop) (hS : ∀ i, i < xs.length → S (xs.getD i GSet.z)) (p : GSet → Bool) : Ans Tryz.prog 82 [] [vL 5 cSet GSet.z xs, fbP S (fun x => [RD.ag (cSet x)]) fun x => .bool (p x)] [] (vB (xs.any p)) := by
  refine con_enter Tryz.func82 rfl rfl rfl fun B0 r_ D_ w0 => ?_
  refine T_auto TT_ok rfl ?_
  refine RJ_Q TT_ok (indexFuncSet_p xs hl S hS p) rfl rfl rfl rfl rfl ?_
  exact T_ansB TT_ok [(4, none)] rfl rfl (idxI_any p GSet.z xs)
theorem containsFuncSet_q (xs : List GSet) (hl : xs.length ≤ 1048576) (p : GSet → Bool) : Ans Tryz.prog 82 [] [vL 5 cSet GSet.z xs, fbO (fun x => [RD.ag (cSet x)]) fun x => .bool (p x)] [] (vB (xs.any p)) :=
  (containsFuncSet_p xs hl (fun _ => True) (fun _ _ => trivial) p).wkA ⟨_, _, rfl, SV.imp_refl _, _, _, rfl, imp_fbO p, rfl⟩
theorem indexFuncNote_p (xs : List GNote) (hl : xs.length ≤ 1048576) (S : GNote → Prop) (hS : ∀ i, i < xs.length → S (xs.getD i GNote.z)) (p : GNote → Bool) : Ans Tryz.prog 147 [] [vL 5 cNote GNote.z xs, fbP S (fun x => [RD.ag (cNote x)]) fun x => .bool (p x)] [] (vI (idxI p xs)) := by
  refine con_enter Tryz.func147 rfl rfl rfl fun B0 r_ D_ w0 => ?_
  refine T_auto TT_ok rfl ?_
  refine T_loopA (ι := Nat) (fun i => [(8, vI i)]) (fun _ => []) (fun i => i ≤ xs.length ∧ ∀ j, j < i → p (xs.getD j GNote.z) = false) (fun i => xs.length - i) 0 [] [] rfl rfl ⟨Nat.zero_le _, fun j hj => absurd hj (Nat.not_lt_zero _)⟩ (by repeat (first | exact trivial | refine And.intro ⟨_, rfl, SV.imp_refl _⟩ ?_)) (by repeat (first | exact trivial | refine And.intro ⟨_, rfl, Ch.imp_refl _⟩ ?_)) ?_
  intro i ⟨h1, h2⟩
  refine T_auto TT_ok rfl ?_
  refine T_condD rfl (fun e => ?_) (fun e => ?_)
  · have hi : i < xs.length := by omega
    refine T_auto TT_ok rfl ?_
    refine RJ_F rfl rfl rfl ⟨xs.getD i GNote.z, hS i hi, rfl, rfl⟩ ?_
    refine RJ_auto TT_ok rfl ?_
    refine T_cond rfl (fun e2 => ?_) (fun e2 => ?_)
    · refine T_auto TT_ok rfl ?_
      exact T_ansI TT_ok [(4, none)] rfl rfl ((idxI_at hi h2 e2).symm)
    · refine T_auto TT_ok rfl ?_
      exact X_inv (i + 1) ⟨hi, before_succ h2 e2⟩ (by omega) (by repeat (first | exact trivial | refine And.intro ⟨_, rfl, SV.imp_refl _⟩ ?_)) (by repeat (first | exact trivial | refine And.intro ⟨_, rfl, Ch.imp_refl _⟩ ?_))
  · refine T_auto TT_ok rfl ?_
    exact T_ansI TT_ok [(4, none)] rfl rfl ((idxI_no fun j hj => h2 j (by omega)).symm)
theorem containsFuncNote_p (xs : List GNote) (hl : xs.length ≤ 1048576) (S : GNote → Prop) (hS : ∀ i, i < xs.length → S (xs.getD i GNote.z)) (p : GNote → Bool) : Ans Tryz.prog 80 [] [vL 5 cNote GNote.z xs, fbP S (fun x => [RD.ag (cNote x)]) fun x => .bool (p x)] [] (vB (xs.any p)) := by
  refine con_enter Tryz.func80 rfl rfl rfl fun B0 r_ D_ w0 => ?_
  refine T_auto TT_ok rfl ?_
  refine RJ_Q TT_ok (indexFuncNote_p xs hl S hS p) rfl rfl rfl rfl rfl ?_
  exact T_ansB TT_ok [(4, none)] rfl rfl (idxI_any p GNote.z xs)
theorem containsFuncNote_q (xs : List GNote) (hl : xs.length ≤ 1048576) (p : GNote → Bool) : Ans Tryz.prog 80 [] [vL 5 cNote GNote.z xs, fbO (fun x => [RD.ag (cNote x)]) fun x => .bool (p x)] [] (vB (xs.any p)) :=
  (containsFuncNote_p xs hl (fun _ => True) (fun _ _ => trivial) p).wkA ⟨_, _, rfl, SV.imp_refl _, _, _, rfl, imp_fbO p, rfl⟩
theorem indexFuncCell_p (xs : List GCell) (hl : xs.length ≤ 1048576) (S : GCell → Prop) (hS : ∀ i, i < xs.length → S (xs.getD i GCell.z)) (p : GCell → Bool) : Ans Tryz.prog 201 [] [vL 2 cCell GCell.z xs, fbP S (fun x => [RD.ag (cCell x)]) fun x => .bool (p x)] [] (vI (idxI p xs)) := by
  refine con_enter Tryz.func201 rfl rfl rfl fun B0 r_ D_ w0 => ?_
  refine T_auto TT_ok rfl ?_
  refine T_loopA (ι := Nat) (fun i => [(8, vI i)]) (fun _ => []) (fun i => i ≤ xs.length ∧ ∀ j, j < i → p (xs.getD j GCell.z) = false) (fun i => xs.length - i) 0 [] [] rfl rfl ⟨Nat.zero_le _, fun j hj => absurd hj (Nat.not_lt_zero _)⟩ (by repeat (first | exact trivial | refine And.intro ⟨_, rfl, SV.imp_refl _⟩ ?_)) (by repeat (first | exact trivial | refine And.intro ⟨_, rfl, Ch.imp_refl _⟩ ?_)) ?_
  intro i ⟨h1, h2⟩
  refine T_auto TT_ok rfl ?_
  refine T_condD rfl (fun e => ?_) (fun e => ?_)
  · have hi : i < xs.length := by omega
    refine T_auto TT_ok rfl ?_
    refine RJ_F rfl rfl rfl ⟨xs.getD i GCell.z, hS i hi, rfl, rfl⟩ ?_
    refine RJ_auto TT_ok rfl ?_
    refine T_cond rfl (fun e2 => ?_) (fun e2 => ?_)
    · refine T_auto TT_ok rfl ?_
      exact T_ansI TT_ok [(4, none)] rfl rfl ((idxI_at hi h2 e2).symm)
    · refine T_auto TT_ok rfl ?_
      exact X_inv (i + 1) ⟨hi, before_succ h2 e2⟩ (by omega) (by repeat (first | exact trivial | refine And.intro ⟨_, rfl, SV.imp_refl _⟩ ?_)) (by repeat (first | exact trivial | refine And.intro ⟨_, rfl, Ch.imp_refl _⟩ ?_))
  · refine T_auto TT_ok rfl ?_
    exact T_ansI TT_ok [(4, none)] rfl rfl ((idxI_no fun j hj => h2 j (by omega)).symm)
theorem containsFuncCell_p (xs : List GCell) (hl : xs.length ≤ 1048576) (S : GCell → Prop) (hS : ∀ i, i < xs.length → S (xs.getD i GCell.z)) (p : GCell → Bool) : Ans Tryz.prog 183 [] [vL 2 cCell GCell.z xs, fbP S (fun x => [RD.ag (cCell x)]) fun x => .bool (p x)] [] (vB (xs.any p)) := by
  refine con_enter Tryz.func183 rfl rfl rfl fun B0 r_ D_ w0 => ?_
  refine T_auto TT_ok rfl ?_
  refine RJ_Q TT_ok (indexFuncCell_p xs hl S hS p) rfl rfl rfl rfl rfl ?_
  exact T_ansB TT_ok [(4, none)] rfl rfl (idxI_any p GCell.z xs)
theorem containsFuncCell_q (xs : List GCell) (hl : xs.length ≤ 1048576) (p : GCell → Bool) : Ans Tryz.prog 183 [] [vL 2 cCell GCell.z xs, fbO (fun x => [RD.ag (cCell x)]) fun x => .bool (p x)] [] (vB (xs.any p)) :=
  (containsFuncCell_p xs hl (fun _ => True) (fun _ _ => trivial) p).wkA ⟨_, _, rfl, SV.imp_refl _, _, _, rfl, imp_fbO p, rfl⟩
theorem indexFuncMachine_p (xs : List GMachine) (hl : xs.length ≤ 1048576) (S : GMachine → Prop) (hS : ∀ i, i < xs.length → S (xs.getD i GMachine.z)) (p : GMachine → Bool) : Ans Tryz.prog 139 [] [vL 4 cMachine GMachine.z xs, fbP S (fun x => [RD.ag (cMachine x)]) fun x => .bool (p x)] [] (vI (idxI p xs)) := by
  refine con_enter Tryz.func139 rfl rfl rfl fun B0 r_ D_ w0 => ?_
  refine T_auto TT_ok rfl ?_
  refine T_loopA (ι := Nat) (fun i => [(8, vI i)]) (fun _ => []) (fun i => i ≤ xs.length ∧ ∀ j, j < i → p (xs.getD j GMachine.z) = false) (fun i => xs.length - i) 0 [] [] rfl rfl ⟨Nat.zero_le _, fun j hj => absurd hj (Nat.not_lt_zero _)⟩ (by repeat (first | exact trivial | refine And.intro ⟨_, rfl, SV.imp_refl _⟩ ?_)) (by repeat (first | exact trivial | refine And.intro ⟨_, rfl, Ch.imp_refl _⟩ ?_)) ?_
  intro i ⟨h1, h2⟩
  refine T_auto TT_ok rfl ?_
  refine T_condD rfl (fun e => ?_) (fun e => ?_)
  · have hi : i < xs.length := by omega
    refine T_auto TT_ok rfl ?_
    refine RJ_F rfl rfl rfl ⟨xs.getD i GMachine.z, hS i hi, rfl, rfl⟩ ?_
    refine RJ_auto TT_ok rfl ?_
    refine T_cond rfl (fun e2 => ?_) (fun e2 => ?_)
    · refine T_auto TT_ok rfl ?_
      exact T_ansI TT_ok [(4, none)] rfl rfl ((idxI_at hi h2 e2).symm)
    · refine T_auto TT_ok rfl ?_
      exact X_inv (i + 1) ⟨hi, before_succ h2 e2⟩ (by omega) (by repeat (first | exact trivial | refine And.intro ⟨_, rfl, SV.imp_refl _⟩ ?_)) (by repeat (first | exact trivial | refine And.intro ⟨_, rfl, Ch.imp_refl _⟩ ?_))
  · refine T_auto TT_ok rfl ?_
    exact T_ansI TT_ok [(4, none)] rfl rfl ((idxI_no fun j hj => h2 j (by omega)).symm)
theorem containsFuncMachine_p (xs : List GMachine) (hl : xs.length ≤ 1048576) (S : GMachine → Prop) (hS : ∀ i, i < xs.length → S (xs.getD i GMachine.z)) (p : GMachine → Bool) : Ans Tryz.prog 74 [] [vL 4 cMachine GMachine.z xs, fbP S (fun x => [RD.ag (cMachine x)]) fun x => .bool (p x)] [] (vB (xs.any p)) := by
  refine con_enter Tryz.func74 rfl rfl rfl fun B0 r_ D_ w0 => ?_
  refine T_auto TT_ok rfl ?_
  refine RJ_Q TT_ok (indexFuncMachine_p xs hl S hS p) rfl rfl rfl rfl rfl ?_
  exact T_ansB TT_ok [(4, none)] rfl rfl (idxI_any p GMachine.z xs)
theorem containsFuncMachine_q (xs : List GMachine) (hl : xs.length ≤ 1048576) (p : GMachine → Bool) : Ans Tryz.prog 74 [] [vL 4 cMachine GMachine.z xs, fbO (fun x => [RD.ag (cMachine x)]) fun x => .bool (p x)] [] (vB (xs.any p)) :=
  (containsFuncMachine_p xs hl (fun _ => True) (fun _ _ => trivial) p).wkA ⟨_, _, rfl, SV.imp_refl _, _, _, rfl, imp_fbO p, rfl⟩
theorem indexFuncRecord_p (xs : List GRecord) (hl : xs.length ≤ 1048576) (S : GRecord → Prop) (hS : ∀ i, i < xs.length → S (xs.getD i GRecord.z)) (p : GRecord → Bool) : Ans Tryz.prog 179 [] [vL 4 cRecord GRecord.z xs, fbP S (fun x => [RD.ag (cRecord x)]) fun x => .bool (p x)] [] (vI (idxI p xs)) := by
  refine con_enter Tryz.func179 rfl rfl rfl fun B0 r_ D_ w0 => ?_
  refine T_auto TT_ok rfl ?_
  refine T_loopA (ι := Nat) (fun i => [(8, vI i)]) (fun _ => []) (fun i => i ≤ xs.length ∧ ∀ j, j < i → p (xs.getD j GRecord.z) = false) (fun i => xs.length - i) 0 [] [] rfl rfl ⟨Nat.zero_le _, fun j hj => absurd hj (Nat.not_lt_zero _)⟩ (by repeat (first | exact trivial | refine And.intro ⟨_, rfl, SV.imp_refl _⟩ ?_)) (by repeat (first | exact trivial | refine And.intro ⟨_, rfl, Ch.imp_refl _⟩ ?_)) ?_
  intro i ⟨h1, h2⟩
  refine T_auto TT_ok rfl ?_
  refine T_condD rfl (fun e => ?_) (fun e => ?_)
  · have hi : i < xs.length := by omega
    refine T_auto TT_ok rfl ?_
    refine RJ_F rfl rfl rfl ⟨xs.getD i GRecord.z, hS i hi, rfl, rfl⟩ ?_
    refine RJ_auto TT_ok rfl ?_
    refine T_cond rfl (fun e2 => ?_) (fun e2 => ?_)
    · refine T_auto TT_ok rfl ?_
      exact T_ansI TT_ok [(4, none)] rfl rfl ((idxI_at hi h2 e2).symm)
    · refine T_auto TT_ok rfl ?_
      exact X_inv (i + 1) ⟨hi, before_succ h2 e2⟩ (by omega) (by repeat (first | exact trivial | refine And.intro ⟨_, rfl, SV.imp_refl _⟩ ?_)) (by repeat (first | exact trivial | refine And.intro ⟨_, rfl, Ch.imp_refl _⟩ ?_))
  · refine T_auto TT_ok rfl ?_
    exact T_ansI TT_ok [(4, none)] rfl rfl ((idxI_no fun j hj => h2 j (by omega)).symm)
theorem containsFuncRecord_p (xs : List GRecord) (hl : xs.length ≤ 1048576) (S : GRecord → Prop) (hS : ∀ i, i < xs.length → S (xs.getD i GRecord.z)) (p : GRecord → Bool) : Ans Tryz.prog 140 [] [vL 4 cRecord GRecord.z xs, fbP S (fun x => [RD.ag (cRecord x)]) fun x => .bool (p x)] [] (vB (xs.any p)) := by
  refine con_enter Tryz.func140 rfl rfl rfl fun B0 r_ D_ w0 => ?_
  refine T_auto TT_ok rfl ?_
  refine RJ_Q TT_ok (indexFuncRecord_p xs hl S hS p) rfl rfl rfl rfl rfl ?_
  exact T_ansB TT_ok [(4, none)] rfl rfl (idxI_any p GRecord.z xs)
theorem containsFuncRecord_q (xs : List GRecord) (hl : xs.length ≤ 1048576) (p : GRecord → Bool) : Ans Tryz.prog 140 [] [vL 4 cRecord GRecord.z xs, fbO (fun x => [RD.ag (cRecord x)]) fun x => .bool (p x)] [] (vB (xs.any p)) :=
  (containsFuncRecord_p xs hl (fun _ => True) (fun _ _ => trivial) p).wkA ⟨_, _, rfl, SV.imp_refl _, _, _, rfl, imp_fbO p, rfl⟩
theorem indexFuncTx_p (xs : List GTx) (hl : xs.length ≤ 1048576) (S : GTx → Prop) (hS : ∀ i, i < xs.length → S (xs.getD i GTx.z)) (p : GTx → Bool) : Ans Tryz.prog 188 [] [vL 7 cTx GTx.z xs, fbP S (fun x => [RD.ag (cTx x)]) fun x => .bool (p x)] [] (vI (idxI p xs)) := by
  refine con_enter Tryz.func188 rfl rfl rfl fun B0 r_ D_ w0 => ?_
  refine T_auto TT_ok rfl ?_
  refine T_loopA (ι := Nat) (fun i => [(8, vI i)]) (fun _ => []) (fun i => i ≤ xs.length ∧ ∀ j, j < i → p (xs.getD j GTx.z) = false) (fun i => xs.length - i) 0 [] [] rfl rfl ⟨Nat.zero_le _, fun j hj => absurd hj (Nat.not_lt_zero _)⟩ (by repeat (first | exact trivial | refine And.intro ⟨_, rfl, SV.imp_refl _⟩ ?_)) (by repeat (first | exact trivial | refine And.intro ⟨_, rfl, Ch.imp_refl _⟩ ?_)) ?_
  intro i ⟨h1, h2⟩
  refine T_auto TT_ok rfl ?_
  refine T_condD rfl (fun e => ?_) (fun e => ?_)
  · have hi : i < xs.length := by omega
    refine T_auto TT_ok rfl ?_
    refine RJ_F rfl rfl rfl ⟨xs.getD i GTx.z, hS i hi, rfl, rfl⟩ ?_
    refine RJ_auto TT_ok rfl ?_
    refine T_cond rfl (fun e2 => ?_) (fun e2 => ?_)
    · refine T_auto TT_ok rfl ?_
      exact T_ansI TT_ok [(4, none)] rfl rfl ((idxI_at hi h2 e2).symm)
    · refine T_auto TT_ok rfl ?_
      exact X_inv (i + 1) ⟨hi, before_succ h2 e2⟩ (by omega) (by repeat (first | exact trivial | refine And.intro ⟨_, rfl, SV.imp_refl _⟩ ?_)) (by repeat (first | exact trivial | refine And.intro ⟨_, rfl, Ch.imp_refl _⟩ ?_))
  · refine T_auto TT_ok rfl ?_
    exact T_ansI TT_ok [(4, none)] rfl rfl ((idxI_no fun j hj => h2 j (by omega)).symm)
theorem index_Int_q (xs : List Int) (hl : xs.length ≤ 1048576) (v : Int) : Ans Tryz.prog 178 [] [vL 1 cInt 0 xs, vI v] [] (vI (idxI (fun x => v == x) xs)) := by
  refine con_enter Tryz.func178 rfl rfl rfl fun B0 r_ D_ w0 => ?_
  refine T_auto TT_ok rfl ?_
  refine T_loopA (ι := Nat) (fun i => [(8, vI i)]) (fun _ => []) (fun i => i ≤ xs.length ∧ ∀ j, j < i → (v == xs.getD j 0) = false) (fun i => xs.length - i) 0 [] [] rfl rfl ⟨Nat.zero_le _, fun j hj => absurd hj (Nat.not_lt_zero _)⟩ (by repeat (first | exact trivial | refine And.intro ⟨_, rfl, SV.imp_refl _⟩ ?_)) (by repeat (first | exact trivial | refine And.intro ⟨_, rfl, Ch.imp_refl _⟩ ?_)) ?_
  intro i ⟨h1, h2⟩
  refine T_auto TT_ok rfl ?_
  refine T_condD rfl (fun e => ?_) (fun e => ?_)
  · have hi : i < xs.length := by omega
    refine T_auto TT_ok rfl ?_
    refine T_cond rfl (fun e2 => ?_) (fun e2 => ?_)
    · refine T_auto TT_ok rfl ?_
      exact T_ansI TT_ok [(4, none)] rfl rfl ((idxI_at (p := fun x => v == x) hi h2 e2).symm)
    · refine T_auto TT_ok rfl ?_
      exact X_inv (i + 1) ⟨hi, before_succ h2 e2⟩ (by omega) (by repeat (first | exact trivial | refine And.intro ⟨_, rfl, SV.imp_refl _⟩ ?_)) (by repeat (first | exact trivial | refine And.intro ⟨_, rfl, Ch.imp_refl _⟩ ?_))
  · refine T_auto TT_ok rfl ?_
    exact T_ansI TT_ok [(4, none)] rfl rfl ((idxI_no (p := fun x => v == x) fun j hj => h2 j (by omega)).symm)
theorem contains_Int_q (xs : List Int) (hl : xs.length ≤ 1048576) (v : Int) : Ans Tryz.prog 138 [] [vL 1 cInt 0 xs, vI v] [] (vB (decide (v ∈ xs))) := by
  refine con_enter Tryz.func138 rfl rfl rfl fun B0 r_ D_ w0 => ?_
  refine T_auto TT_ok rfl ?_
  refine RJ_Q TT_ok (index_Int_q xs hl v) rfl rfl rfl rfl rfl ?_
  exact T_ansB TT_ok [(4, none)] rfl rfl ((by rw [idxI_any _ 0, Bool.eq_iff_iff, List.any_eq_true]; simp))
theorem cloneCell_m (xs : List GCell) (hl : xs.length ≤ 1048576) : MkL Tryz.prog 149 [vL 2 cCell GCell.z xs] 2 cCell GCell.z xs := by
  refine con_enter Tryz.func149 rfl rfl rfl fun B0 r_ D_ w0 => ?_
  refine T_auto TT_ok rfl ?_
  refine RJ_nil TT_ok false rfl rfl rfl rfl rfl rfl fun b hb => ?_
  refine RJ_auto TT_ok rfl ?_
  refine T_cond rfl (fun e => ?_) (fun e => ?_)
  · have h0 := hb e
    refine T_auto TT_ok rfl ?_
    refine T_view (V_nil 2 900 2 (fun i => cCell (([] : List GCell).getD i GCell.z)) rfl rfl rfl rfl) ?_
    refine T_ret TT_ok (()) [(2, none)] rfl rfl ?_ ?_ ?_
    · exact SVs.imp_refl _
    · exact ⟨⟨_, rfl, imp_list (List.length_eq_zero_iff.1 h0).symm⟩, trivial⟩
    · trivial
  · refine T_auto TT_ok rfl ?_
    refine RJ_bs TT_ok 5 (fun i => cCell (([] : List GCell).getD i GCell.z)) rfl rfl rfl rfl rfl rfl rfl (fun i hi => absurd hi (Nat.not_lt_zero _)) (mu1 := []) rfl rfl rfl ?_
    refine RJ_auto TT_ok rfl ?_
    refine RJ_appC TT_ok 5 900 rfl rfl rfl rfl rfl rfl rfl rfl rfl rfl rfl rfl ⟨by simp; omega, by unfold maxL; omega⟩ ?_
    refine RJ_auto TT_ok rfl ?_
    refine T_ret TT_ok (()) [(2, none)] rfl rfl ?_ ?_ ?_
    · exact SVs.imp_refl _
    · exact ⟨⟨_, rfl, imp_app (ys := ([] : List GCell)) (by simp)⟩, trivial⟩
    · trivial
theorem cloneInt64_m (xs : List Int) (hl : xs.length ≤ 1048576) : MkL Tryz.prog 84 [vL 1 cInt 0 xs] 1 cInt 0 xs := by
  refine con_enter Tryz.func84 rfl rfl rfl fun B0 r_ D_ w0 => ?_
  refine T_auto TT_ok rfl ?_
  refine RJ_nil TT_ok false rfl rfl rfl rfl rfl rfl fun b hb => ?_
  refine RJ_auto TT_ok rfl ?_
  refine T_cond rfl (fun e => ?_) (fun e => ?_)
  · have h0 := hb e
    refine T_auto TT_ok rfl ?_
    refine T_view (V_nil 2 900 1 (fun i => cInt (([] : List Int).getD i 0)) rfl rfl rfl rfl) ?_
    refine T_ret TT_ok (()) [(2, none)] rfl rfl ?_ ?_ ?_
    · exact SVs.imp_refl _
    · exact ⟨⟨_, rfl, imp_list (List.length_eq_zero_iff.1 h0).symm⟩, trivial⟩
    · trivial
  · refine T_auto TT_ok rfl ?_
    refine RJ_bs TT_ok 5 (fun i => cInt (([] : List Int).getD i 0)) rfl rfl rfl rfl rfl rfl rfl (fun i hi => absurd hi (Nat.not_lt_zero _)) (mu1 := []) rfl rfl rfl ?_
    refine RJ_auto TT_ok rfl ?_
    refine RJ_appC TT_ok 5 900 rfl rfl rfl rfl rfl rfl rfl rfl rfl rfl rfl rfl ⟨by simp; omega, by unfold maxL; omega⟩ ?_
    refine RJ_auto TT_ok rfl ?_
    refine T_ret TT_ok (()) [(2, none)] rfl rfl ?_ ?_ ?_
    · exact SVs.imp_refl _
    · exact ⟨⟨_, rfl, imp_app (ys := ([] : List Int)) (by simp)⟩, trivial⟩
    · trivial
theorem sizePlace_q (xs : List GPlace) : Ans Tryz.prog 78 [] [vL 1 cPlace GPlace.z xs] [] (vI xs.length) := by
  refine con_enter Tryz.func78 rfl rfl rfl fun B0 r_ D_ w0 => ?_
  refine T_auto TT_ok rfl ?_
  exact T_ansI TT_ok [(2, none)] rfl rfl (rfl)
theorem sizeMachine_q (xs : List GMachine) : Ans Tryz.prog 70 [] [vL 4 cMachine GMachine.z xs] [] (vI xs.length) := by
  refine con_enter Tryz.func70 rfl rfl rfl fun B0 r_ D_ w0 => ?_
  refine T_auto TT_ok rfl ?_
  exact T_ansI TT_ok [(2, none)] rfl rfl (rfl)
theorem sizeSet_q (xs : List GSet) : Ans Tryz.prog 180 [] [vL 5 cSet GSet.z xs] [] (vI xs.length) := by
  refine con_enter Tryz.func180 rfl rfl rfl fun B0 r_ D_ w0 => ?_
  refine T_auto TT_ok rfl ?_
  exact T_ansI TT_ok [(2, none)] rfl rfl (rfl)
theorem sizeInt64_q (xs : List Int) : Ans Tryz.prog 136 [] [vL 1 cInt 0 xs] [] (vI xs.length) := by
  refine con_enter Tryz.func136 rfl rfl rfl fun B0 r_ D_ w0 => ?_
  refine T_auto TT_ok rfl ?_
  exact T_ansI TT_ok [(2, none)] rfl rfl (rfl)
end Go.Proofs.YtpfcfepbhdkpdaaGreat
