/-
  Part F of what the claim leans on: memory, data, walks through the program, plain laws.
-/
import Derived.Test.YtcikaknfogpeeaaGreatMRE
namespace Go.Proofs.YtcikaknfogpeeaaGreat
open Go Go.RowKit
set_option linter.unusedVariables false
set_option linter.unusedSimpArgs false
set_option maxRecDepth 4000
theorem any_at {α : Type} {p : α → Bool} {z : α} {xs : List α} {i : Nat} (hi : i < xs.length) (h : p (xs.getD i z) = true) : xs.any p = true := List.any_eq_true.2 ⟨xs.getD i z, by simp [hi], h⟩
theorem any_no {α : Type} {p : α → Bool} {z : α} {xs : List α} (h : ∀ j, j < xs.length → p (xs.getD j z) = false) : xs.any p = false := by
  rw [List.any_eq_false]
  intro x hx
  obtain ⟨a, ha, rfl⟩ := List.mem_iff_getElem.1 hx
  have := h a ha
  simp [ha] at this
  simp [this]
theorem any_get {α : Type} {p : α → Bool} {z : α} {xs : List α} (h : xs.any p = false) : ∀ j, j < xs.length → p (xs.getD j z) = false := fun j hj => by
  rw [List.any_eq_false] at h
  have := h (xs.getD j z) (by simp [hj])
  simpa using this
theorem idxI_any {α : Type} (p : α → Bool) (z : α) (xs : List α) : decide (idxI p xs ≥ 0) = xs.any p := by
  rcases idxI_cases p z xs with ⟨h1, h2⟩ | ⟨i, h1, h2, h3, h4⟩
  · rw [any_no h2, h1]; rfl
  · rw [any_at h1 h4, h2]; simp
theorem imp_fbO {P : Program} {α : Type} {rd : α → List RD} (p : α → Bool) : (fbO rd fun x => .bool (p x)).imp P (fbP (fun _ => True) rd fun x => .bool (p x)) := by
  intro B Z y ⟨f, vs, h1, h2⟩
  refine ⟨f, vs, h1, h2.1, fun args x ⟨a, _, e1, e2⟩ => h2.2 args x ⟨a, e1, e2⟩⟩
theorem indexFuncSet_p (xs : List GSet) (hl : xs.length ≤ 1048576) (S : GSet → Prop) (hS : ∀ i, i < xs.length → S (xs.getD i GSet.z)) (p : GSet → Bool) : Ans Tryz.prog 150 [] [vL 5 cSet GSet.z xs, fbP S (fun x => [RD.ag (cSet x)]) fun x => .bool (p x)] [] (vI (idxI p xs)) := by
  refine con_enter Tryz.func150 rfl rfl rfl fun B0 r_ D_ w0 => ?_
  refine T_auto TT_ok rfl ?_
  refine T_loopA (ι := Nat) (fun i => [(8, vI i)]) (fun _ => []) (fun i => i ≤ xs.length ∧ ∀ j, j < i → p (xs.getD j GSet.z) = false) (fun i => xs.length - i) 0 [] [] rfl rfl ⟨Nat.zero_le _, fun j hj => absurd hj (Nat.not_lt_zero _)⟩ (by repeat (first | exact trivial | refine And.intro ⟨_, rfl, SV.imp_refl _⟩ ?_)) (by repeat (first | exact trivial | refine And.intro ⟨_, rfl, Ch.imp_refl _⟩ ?_)) ?_
  intro i ⟨h1, h2⟩
  refine T_auto TT_ok rfl ?_
  refine T_condD rfl (fun e => ?_) (fun e => ?_)
  · have hi : i < xs.length := by omega
    refine T_auto TT_ok rfl ?_
    refine RJ_F rfl rfl rfl ⟨xs.getD i GSet.z, hS i hi, rfl, rfl⟩ ?_
    refine RJ_auto TT_ok rfl ?_
    refine T_cond rfl (fun e2 => ?_) (fun e2 => ?_)
    · refine T_auto TT_ok rfl ?_
      exact T_ansI TT_ok [(4, none)] rfl rfl ((idxI_at hi h2 e2).symm)
    · refine T_auto TT_ok rfl ?_
      exact X_inv (i + 1) ⟨hi, before_succ h2 e2⟩ (by omega) (by repeat (first | exact trivial | refine And.intro ⟨_, rfl, SV.imp_refl _⟩ ?_)) (by repeat (first | exact trivial | refine And.intro ⟨_, rfl, Ch.imp_refl _⟩ ?_))
  · refine T_auto TT_ok rfl ?_
    exact T_ansI TT_ok [(4, none)] rfl rfl ((idxI_no fun j hj => h2 j (by omega)).symm)
theorem containsFuncSet_p (xs : List GSet) (hl : xs.length ≤ 1048576) (S : GSet → Prop) (hS : ∀ i, i < xs.length → S (xs.getD i GSet.z)) (p : GSet → Bool) : Ans Tryz.prog 82 [] [vL 5 cSet GSet.z xs, fbP S (fun x => [RD.ag (cSet x)]) fun x => .bool (p x)] [] (vB (xs.any p)) := by
  refine con_enter Tryz.func82 rfl rfl rfl fun B0 r_ D_ w0 => ?_
  refine T_auto TT_ok rfl ?_
  refine RJ_Q TT_ok (indexFuncSet_p xs hl S hS p) rfl rfl rfl rfl rfl ?_
  exact T_ansB TT_ok [(4, none)] rfl rfl (idxI_any p GSet.z xs)
theorem containsFuncSet_q (xs : List GSet) (hl : xs.length ≤ 1048576) (p : GSet → Bool) : Ans Tryz.prog 82 [] [vL 5 cSet GSet.z xs, fbO (fun x => [RD.ag (cSet x)]) fun x => .bool (p x)] [] (vB (xs.any p)) :=
  (containsFuncSet_p xs hl (fun _ => True) (fun _ _ => trivial) p).wkA ⟨_, _, rfl, SV.imp_refl _, _, _, rfl, imp_fbO p, rfl⟩
theorem indexFuncNote_p (xs : List GNote) (hl : xs.length ≤ 1048576) (S : GNote → Prop) (hS : ∀ i, i < xs.length → S (xs.getD i GNote.z)) (p : GNote → Bool) : Ans Tryz.prog 149 [] [vL 5 cNote GNote.z xs, fbP S (fun x => [RD.ag (cNote x)]) fun x => .bool (p x)] [] (vI (idxI p xs)) := by
  refine con_enter Tryz.func149 rfl rfl rfl fun B0 r_ D_ w0 => ?_
  refine T_auto TT_ok rfl ?_
  refine T_loopA (ι := Nat) (fun i => [(8, vI i)]) (fun _ => []) (fun i => i ≤ xs.length ∧ ∀ j, j < i → p (xs.getD j GNote.z) = false) (fun i => xs.length - i) 0 [] [] rfl rfl ⟨Nat.zero_le _, fun j hj => absurd hj (Nat.not_lt_zero _)⟩ (by repeat (first | exact trivial | refine And.intro ⟨_, rfl, SV.imp_refl _⟩ ?_)) (by repeat (first | exact trivial | refine And.intro ⟨_, rfl, Ch.imp_refl _⟩ ?_)) ?_
  intro i ⟨h1, h2⟩
  refine T_auto TT_ok rfl ?_
  refine T_condD rfl (fun e => ?_) (fun e => ?_)
  · have hi : i < xs.length := by omega
    refine T_auto TT_ok rfl ?_
    refine RJ_F rfl rfl rfl ⟨xs.getD i GNote.z, hS i hi, rfl, rfl⟩ ?_
    refine RJ_auto TT_ok rfl ?_
    refine T_cond rfl (fun e2 => ?_) (fun e2 => ?_)
    · refine T_auto TT_ok rfl ?_
      exact T_ansI TT_ok [(4, none)] rfl rfl ((idxI_at hi h2 e2).symm)
    · refine T_auto TT_ok rfl ?_
      exact X_inv (i + 1) ⟨hi, before_succ h2 e2⟩ (by omega) (by repeat (first | exact trivial | refine And.intro ⟨_, rfl, SV.imp_refl _⟩ ?_)) (by repeat (first | exact trivial | refine And.intro ⟨_, rfl, Ch.imp_refl _⟩ ?_))
  · refine T_auto TT_ok rfl ?_
    exact T_ansI TT_ok [(4, none)] rfl rfl ((idxI_no fun j hj => h2 j (by omega)).symm)
theorem containsFuncNote_p (xs : List GNote) (hl : xs.length ≤ 1048576) (S : GNote → Prop) (hS : ∀ i, i < xs.length → S (xs.getD i GNote.z)) (p : GNote → Bool) : Ans Tryz.prog 80 [] [vL 5 cNote GNote.z xs, fbP S (fun x => [RD.ag (cNote x)]) fun x => .bool (p x)] [] (vB (xs.any p)) := by
  refine con_enter Tryz.func80 rfl rfl rfl fun B0 r_ D_ w0 => ?_
  refine T_auto TT_ok rfl ?_
  refine RJ_Q TT_ok (indexFuncNote_p xs hl S hS p) rfl rfl rfl rfl rfl ?_
  exact T_ansB TT_ok [(4, none)] rfl rfl (idxI_any p GNote.z xs)
theorem containsFuncNote_q (xs : List GNote) (hl : xs.length ≤ 1048576) (p : GNote → Bool) : Ans Tryz.prog 80 [] [vL 5 cNote GNote.z xs, fbO (fun x => [RD.ag (cNote x)]) fun x => .bool (p x)] [] (vB (xs.any p)) :=
  (containsFuncNote_p xs hl (fun _ => True) (fun _ _ => trivial) p).wkA ⟨_, _, rfl, SV.imp_refl _, _, _, rfl, imp_fbO p, rfl⟩
theorem indexFuncCell_p (xs : List GCell) (hl : xs.length ≤ 1048576) (S : GCell → Prop) (hS : ∀ i, i < xs.length → S (xs.getD i GCell.z)) (p : GCell → Bool) : Ans Tryz.prog 242 [] [vL 2 cCell GCell.z xs, fbP S (fun x => [RD.ag (cCell x)]) fun x => .bool (p x)] [] (vI (idxI p xs)) := by
  refine con_enter Tryz.func242 rfl rfl rfl fun B0 r_ D_ w0 => ?_
  refine T_auto TT_ok rfl ?_
  refine T_loopA (ι := Nat) (fun i => [(8, vI i)]) (fun _ => []) (fun i => i ≤ xs.length ∧ ∀ j, j < i → p (xs.getD j GCell.z) = false) (fun i => xs.length - i) 0 [] [] rfl rfl ⟨Nat.zero_le _, fun j hj => absurd hj (Nat.not_lt_zero _)⟩ (by repeat (first | exact trivial | refine And.intro ⟨_, rfl, SV.imp_refl _⟩ ?_)) (by repeat (first | exact trivial | refine And.intro ⟨_, rfl, Ch.imp_refl _⟩ ?_)) ?_
  intro i ⟨h1, h2⟩
  refine T_auto TT_ok rfl ?_
  refine T_condD rfl (fun e => ?_) (fun e => ?_)
  · have hi : i < xs.length := by omega
    refine T_auto TT_ok rfl ?_
    refine RJ_F rfl rfl rfl ⟨xs.getD i GCell.z, hS i hi, rfl, rfl⟩ ?_
    refine RJ_auto TT_ok rfl ?_
    refine T_cond rfl (fun e2 => ?_) (fun e2 => ?_)
    · refine T_auto TT_ok rfl ?_
      exact T_ansI TT_ok [(4, none)] rfl rfl ((idxI_at hi h2 e2).symm)
    · refine T_auto TT_ok rfl ?_
      exact X_inv (i + 1) ⟨hi, before_succ h2 e2⟩ (by omega) (by repeat (first | exact trivial | refine And.intro ⟨_, rfl, SV.imp_refl _⟩ ?_)) (by repeat (first | exact trivial | refine And.intro ⟨_, rfl, Ch.imp_refl _⟩ ?_))
  · refine T_auto TT_ok rfl ?_
    exact T_ansI TT_ok [(4, none)] rfl rfl ((idxI_no fun j hj => h2 j (by omega)).symm)
theorem containsFuncCell_p (xs : List GCell) (hl : xs.length ≤ 1048576) (S : GCell → Prop) (hS : ∀ i, i < xs.length → S (xs.getD i GCell.z)) (p : GCell → Bool) : Ans Tryz.prog 210 [] [vL 2 cCell GCell.z xs, fbP S (fun x => [RD.ag (cCell x)]) fun x => .bool (p x)] [] (vB (xs.any p)) := by
  refine con_enter Tryz.func210 rfl rfl rfl fun B0 r_ D_ w0 => ?_
  refine T_auto TT_ok rfl ?_
  refine RJ_Q TT_ok (indexFuncCell_p xs hl S hS p) rfl rfl rfl rfl rfl ?_
  exact T_ansB TT_ok [(4, none)] rfl rfl (idxI_any p GCell.z xs)
theorem containsFuncCell_q (xs : List GCell) (hl : xs.length ≤ 1048576) (p : GCell → Bool) : Ans Tryz.prog 210 [] [vL 2 cCell GCell.z xs, fbO (fun x => [RD.ag (cCell x)]) fun x => .bool (p x)] [] (vB (xs.any p)) :=
  (containsFuncCell_p xs hl (fun _ => True) (fun _ _ => trivial) p).wkA ⟨_, _, rfl, SV.imp_refl _, _, _, rfl, imp_fbO p, rfl⟩
theorem indexFuncInt64_p (xs : List Int) (hl : xs.length ≤ 1048576) (S : Int → Prop) (hS : ∀ i, i < xs.length → S (xs.getD i 0)) (p : Int → Bool) : Ans Tryz.prog 235 [] [vL 1 cInt 0 xs, fbP S (fun x => [RD.a (dI x)]) fun x => .bool (p x)] [] (vI (idxI p xs)) := by
  refine con_enter Tryz.func235 rfl rfl rfl fun B0 r_ D_ w0 => ?_
  refine T_auto TT_ok rfl ?_
  refine T_loopA (ι := Nat) (fun i => [(8, vI i)]) (fun _ => []) (fun i => i ≤ xs.length ∧ ∀ j, j < i → p (xs.getD j 0) = false) (fun i => xs.length - i) 0 [] [] rfl rfl ⟨Nat.zero_le _, fun j hj => absurd hj (Nat.not_lt_zero _)⟩ (by repeat (first | exact trivial | refine And.intro ⟨_, rfl, SV.imp_refl _⟩ ?_)) (by repeat (first | exact trivial | refine And.intro ⟨_, rfl, Ch.imp_refl _⟩ ?_)) ?_
  intro i ⟨h1, h2⟩
  refine T_auto TT_ok rfl ?_
  refine T_condD rfl (fun e => ?_) (fun e => ?_)
  · have hi : i < xs.length := by omega
    refine T_auto TT_ok rfl ?_
    refine RJ_F rfl rfl rfl ⟨xs.getD i 0, hS i hi, rfl, rfl⟩ ?_
    refine RJ_auto TT_ok rfl ?_
    refine T_cond rfl (fun e2 => ?_) (fun e2 => ?_)
    · refine T_auto TT_ok rfl ?_
      exact T_ansI TT_ok [(4, none)] rfl rfl ((idxI_at hi h2 e2).symm)
    · refine T_auto TT_ok rfl ?_
      exact X_inv (i + 1) ⟨hi, before_succ h2 e2⟩ (by omega) (by repeat (first | exact trivial | refine And.intro ⟨_, rfl, SV.imp_refl _⟩ ?_)) (by repeat (first | exact trivial | refine And.intro ⟨_, rfl, Ch.imp_refl _⟩ ?_))
  · refine T_auto TT_ok rfl ?_
    exact T_ansI TT_ok [(4, none)] rfl rfl ((idxI_no fun j hj => h2 j (by omega)).symm)
theorem containsFuncInt64_p (xs : List Int) (hl : xs.length ≤ 1048576) (S : Int → Prop) (hS : ∀ i, i < xs.length → S (xs.getD i 0)) (p : Int → Bool) : Ans Tryz.prog 188 [] [vL 1 cInt 0 xs, fbP S (fun x => [RD.a (dI x)]) fun x => .bool (p x)] [] (vB (xs.any p)) := by
  refine con_enter Tryz.func188 rfl rfl rfl fun B0 r_ D_ w0 => ?_
  refine T_auto TT_ok rfl ?_
  refine RJ_Q TT_ok (indexFuncInt64_p xs hl S hS p) rfl rfl rfl rfl rfl ?_
  exact T_ansB TT_ok [(4, none)] rfl rfl (idxI_any p 0 xs)
theorem indexFuncMachine_p (xs : List GMachine) (hl : xs.length ≤ 1048576) (S : GMachine → Prop) (hS : ∀ i, i < xs.length → S (xs.getD i GMachine.z)) (p : GMachine → Bool) : Ans Tryz.prog 140 [] [vL 4 cMachine GMachine.z xs, fbP S (fun x => [RD.ag (cMachine x)]) fun x => .bool (p x)] [] (vI (idxI p xs)) := by
  refine con_enter Tryz.func140 rfl rfl rfl fun B0 r_ D_ w0 => ?_
  refine T_auto TT_ok rfl ?_
  refine T_loopA (ι := Nat) (fun i => [(8, vI i)]) (fun _ => []) (fun i => i ≤ xs.length ∧ ∀ j, j < i → p (xs.getD j GMachine.z) = false) (fun i => xs.length - i) 0 [] [] rfl rfl ⟨Nat.zero_le _, fun j hj => absurd hj (Nat.not_lt_zero _)⟩ (by repeat (first | exact trivial | refine And.intro ⟨_, rfl, SV.imp_refl _⟩ ?_)) (by repeat (first | exact trivial | refine And.intro ⟨_, rfl, Ch.imp_refl _⟩ ?_)) ?_
  intro i ⟨h1, h2⟩
  refine T_auto TT_ok rfl ?_
  refine T_condD rfl (fun e => ?_) (fun e => ?_)
  · have hi : i < xs.length := by omega
    refine T_auto TT_ok rfl ?_
    refine RJ_F rfl rfl rfl ⟨xs.getD i GMachine.z, hS i hi, rfl, rfl⟩ ?_
    refine RJ_auto TT_ok rfl ?_
    refine T_cond rfl (fun e2 => ?_) (fun e2 => ?_)
    · refine T_auto TT_ok rfl ?_
      exact T_ansI TT_ok [(4, none)] rfl rfl ((idxI_at hi h2 e2).symm)
    · refine T_auto TT_ok rfl ?_
      exact X_inv (i + 1) ⟨hi, before_succ h2 e2⟩ (by omega) (by repeat (first | exact trivial | refine And.intro ⟨_, rfl, SV.imp_refl _⟩ ?_)) (by repeat (first | exact trivial | refine And.intro ⟨_, rfl, Ch.imp_refl _⟩ ?_))
  · refine T_auto TT_ok rfl ?_
    exact T_ansI TT_ok [(4, none)] rfl rfl ((idxI_no fun j hj => h2 j (by omega)).symm)
theorem containsFuncMachine_p (xs : List GMachine) (hl : xs.length ≤ 1048576) (S : GMachine → Prop) (hS : ∀ i, i < xs.length → S (xs.getD i GMachine.z)) (p : GMachine → Bool) : Ans Tryz.prog 74 [] [vL 4 cMachine GMachine.z xs, fbP S (fun x => [RD.ag (cMachine x)]) fun x => .bool (p x)] [] (vB (xs.any p)) := by
  refine con_enter Tryz.func74 rfl rfl rfl fun B0 r_ D_ w0 => ?_
  refine T_auto TT_ok rfl ?_
  refine RJ_Q TT_ok (indexFuncMachine_p xs hl S hS p) rfl rfl rfl rfl rfl ?_
  exact T_ansB TT_ok [(4, none)] rfl rfl (idxI_any p GMachine.z xs)
theorem indexFuncRecord_p (xs : List GRecord) (hl : xs.length ≤ 1048576) (S : GRecord → Prop) (hS : ∀ i, i < xs.length → S (xs.getD i GRecord.z)) (p : GRecord → Bool) : Ans Tryz.prog 206 [] [vL 4 cRecord GRecord.z xs, fbP S (fun x => [RD.ag (cRecord x)]) fun x => .bool (p x)] [] (vI (idxI p xs)) := by
  refine con_enter Tryz.func206 rfl rfl rfl fun B0 r_ D_ w0 => ?_
  refine T_auto TT_ok rfl ?_
  refine T_loopA (ι := Nat) (fun i => [(8, vI i)]) (fun _ => []) (fun i => i ≤ xs.length ∧ ∀ j, j < i → p (xs.getD j GRecord.z) = false) (fun i => xs.length - i) 0 [] [] rfl rfl ⟨Nat.zero_le _, fun j hj => absurd hj (Nat.not_lt_zero _)⟩ (by repeat (first | exact trivial | refine And.intro ⟨_, rfl, SV.imp_refl _⟩ ?_)) (by repeat (first | exact trivial | refine And.intro ⟨_, rfl, Ch.imp_refl _⟩ ?_)) ?_
  intro i ⟨h1, h2⟩
  refine T_auto TT_ok rfl ?_
  refine T_condD rfl (fun e => ?_) (fun e => ?_)
  · have hi : i < xs.length := by omega
    refine T_auto TT_ok rfl ?_
    refine RJ_F rfl rfl rfl ⟨xs.getD i GRecord.z, hS i hi, rfl, rfl⟩ ?_
    refine RJ_auto TT_ok rfl ?_
    refine T_cond rfl (fun e2 => ?_) (fun e2 => ?_)
    · refine T_auto TT_ok rfl ?_
      exact T_ansI TT_ok [(4, none)] rfl rfl ((idxI_at hi h2 e2).symm)
    · refine T_auto TT_ok rfl ?_
      exact X_inv (i + 1) ⟨hi, before_succ h2 e2⟩ (by omega) (by repeat (first | exact trivial | refine And.intro ⟨_, rfl, SV.imp_refl _⟩ ?_)) (by repeat (first | exact trivial | refine And.intro ⟨_, rfl, Ch.imp_refl _⟩ ?_))
  · refine T_auto TT_ok rfl ?_
    exact T_ansI TT_ok [(4, none)] rfl rfl ((idxI_no fun j hj => h2 j (by omega)).symm)
theorem containsFuncRecord_p (xs : List GRecord) (hl : xs.length ≤ 1048576) (S : GRecord → Prop) (hS : ∀ i, i < xs.length → S (xs.getD i GRecord.z)) (p : GRecord → Bool) : Ans Tryz.prog 141 [] [vL 4 cRecord GRecord.z xs, fbP S (fun x => [RD.ag (cRecord x)]) fun x => .bool (p x)] [] (vB (xs.any p)) := by
  refine con_enter Tryz.func141 rfl rfl rfl fun B0 r_ D_ w0 => ?_
  refine T_auto TT_ok rfl ?_
  refine RJ_Q TT_ok (indexFuncRecord_p xs hl S hS p) rfl rfl rfl rfl rfl ?_
  exact T_ansB TT_ok [(4, none)] rfl rfl (idxI_any p GRecord.z xs)
theorem index_Int_q (xs : List Int) (hl : xs.length ≤ 1048576) (v : Int) : Ans Tryz.prog 193 [] [vL 1 cInt 0 xs, vI v] [] (vI (idxI (fun x => v == x) xs)) := by
  refine con_enter Tryz.func193 rfl rfl rfl fun B0 r_ D_ w0 => ?_
  refine T_auto TT_ok rfl ?_
  refine T_loopA (ι := Nat) (fun i => [(8, vI i)]) (fun _ => []) (fun i => i ≤ xs.length ∧ ∀ j, j < i → (v == xs.getD j 0) = false) (fun i => xs.length - i) 0 [] [] rfl rfl ⟨Nat.zero_le _, fun j hj => absurd hj (Nat.not_lt_zero _)⟩ (by repeat (first | exact trivial | refine And.intro ⟨_, rfl, SV.imp_refl _⟩ ?_)) (by repeat (first | exact trivial | refine And.intro ⟨_, rfl, Ch.imp_refl _⟩ ?_)) ?_
  intro i ⟨h1, h2⟩
  refine T_auto TT_ok rfl ?_
  refine T_condD rfl (fun e => ?_) (fun e => ?_)
  · have hi : i < xs.length := by omega
    refine T_auto TT_ok rfl ?_
    refine T_cond rfl (fun e2 => ?_) (fun e2 => ?_)
    · refine T_auto TT_ok rfl ?_
      exact T_ansI TT_ok [(4, none)] rfl rfl ((idxI_at (p := fun x => v == x) hi h2 e2).symm)
    · refine T_auto TT_ok rfl ?_
      exact X_inv (i + 1) ⟨hi, before_succ h2 e2⟩ (by omega) (by repeat (first | exact trivial | refine And.intro ⟨_, rfl, SV.imp_refl _⟩ ?_)) (by repeat (first | exact trivial | refine And.intro ⟨_, rfl, Ch.imp_refl _⟩ ?_))
  · refine T_auto TT_ok rfl ?_
    exact T_ansI TT_ok [(4, none)] rfl rfl ((idxI_no (p := fun x => v == x) fun j hj => h2 j (by omega)).symm)
theorem contains_Int_q (xs : List Int) (hl : xs.length ≤ 1048576) (v : Int) : Ans Tryz.prog 119 [] [vL 1 cInt 0 xs, vI v] [] (vB (decide (v ∈ xs))) := by
  refine con_enter Tryz.func119 rfl rfl rfl fun B0 r_ D_ w0 => ?_
  refine T_auto TT_ok rfl ?_
  refine RJ_Q TT_ok (index_Int_q xs hl v) rfl rfl rfl rfl rfl ?_
  exact T_ansB TT_ok [(4, none)] rfl rfl ((by rw [idxI_any _ 0, Bool.eq_iff_iff, List.any_eq_true]; simp))
theorem cloneCell_m (xs : List GCell) (hl : xs.length ≤ 1048576) : MkL Tryz.prog 151 [vL 2 cCell GCell.z xs] 2 cCell GCell.z xs := by
  refine con_enter Tryz.func151 rfl rfl rfl fun B0 r_ D_ w0 => ?_
  refine T_auto TT_ok rfl ?_
  refine RJ_nil TT_ok false rfl rfl rfl rfl rfl rfl fun b hb => ?_
  refine RJ_auto TT_ok rfl ?_
  refine T_cond rfl (fun e => ?_) (fun e => ?_)
  · have h0 := hb e
    refine T_auto TT_ok rfl ?_
    refine T_view (V_nil 2 900 2 (fun i => cCell (([] : List GCell).getD i GCell.z)) rfl rfl rfl rfl) ?_
    refine T_ret TT_ok (()) [(2, none)] rfl rfl ?_ ?_ ?_
    · exact SVs.imp_refl _
    · exact ⟨⟨_, rfl, imp_list (List.length_eq_zero_iff.1 h0).symm⟩, trivial⟩
    · trivial
  · refine T_auto TT_ok rfl ?_
    refine RJ_bs TT_ok 5 (fun i => cCell (([] : List GCell).getD i GCell.z)) rfl rfl rfl rfl rfl rfl rfl (fun i hi => absurd hi (Nat.not_lt_zero _)) (mu1 := []) rfl rfl rfl ?_
    refine RJ_auto TT_ok rfl ?_
    refine RJ_appC TT_ok 5 900 rfl rfl rfl rfl rfl rfl rfl rfl rfl rfl rfl rfl ⟨by simp; omega, by unfold maxL; omega⟩ ?_
    refine RJ_auto TT_ok rfl ?_
    refine T_ret TT_ok (()) [(2, none)] rfl rfl ?_ ?_ ?_
    · exact SVs.imp_refl _
    · exact ⟨⟨_, rfl, imp_app (ys := ([] : List GCell)) (by simp)⟩, trivial⟩
    · trivial
theorem cloneInt64_m (xs : List Int) (hl : xs.length ≤ 1048576) : MkL Tryz.prog 84 [vL 1 cInt 0 xs] 1 cInt 0 xs := by
  refine con_enter Tryz.func84 rfl rfl rfl fun B0 r_ D_ w0 => ?_
  refine T_auto TT_ok rfl ?_
  refine RJ_nil TT_ok false rfl rfl rfl rfl rfl rfl fun b hb => ?_
  refine RJ_auto TT_ok rfl ?_
  refine T_cond rfl (fun e => ?_) (fun e => ?_)
  · have h0 := hb e
    refine T_auto TT_ok rfl ?_
    refine T_view (V_nil 2 900 1 (fun i => cInt (([] : List Int).getD i 0)) rfl rfl rfl rfl) ?_
    refine T_ret TT_ok (()) [(2, none)] rfl rfl ?_ ?_ ?_
    · exact SVs.imp_refl _
    · exact ⟨⟨_, rfl, imp_list (List.length_eq_zero_iff.1 h0).symm⟩, trivial⟩
    · trivial
  · refine T_auto TT_ok rfl ?_
    refine RJ_bs TT_ok 5 (fun i => cInt (([] : List Int).getD i 0)) rfl rfl rfl rfl rfl rfl rfl (fun i hi => absurd hi (Nat.not_lt_zero _)) (mu1 := []) rfl rfl rfl ?_
    refine RJ_auto TT_ok rfl ?_
    refine RJ_appC TT_ok 5 900 rfl rfl rfl rfl rfl rfl rfl rfl rfl rfl rfl rfl ⟨by simp; omega, by unfold maxL; omega⟩ ?_
    refine RJ_auto TT_ok rfl ?_
    refine T_ret TT_ok (()) [(2, none)] rfl rfl ?_ ?_ ?_
    · exact SVs.imp_refl _
    · exact ⟨⟨_, rfl, imp_app (ys := ([] : List Int)) (by simp)⟩, trivial⟩
    · trivial
theorem sizePlace_q (xs : List GPlace) : Ans Tryz.prog 78 [] [vL 1 cPlace GPlace.z xs] [] (vI xs.length) := by
  refine con_enter Tryz.func78 rfl rfl rfl fun B0 r_ D_ w0 => ?_
  refine T_auto TT_ok rfl ?_
  exact T_ansI TT_ok [(2, none)] rfl rfl (rfl)
theorem sizeMachine_q (xs : List GMachine) : Ans Tryz.prog 70 [] [vL 4 cMachine GMachine.z xs] [] (vI xs.length) := by
  refine con_enter Tryz.func70 rfl rfl rfl fun B0 r_ D_ w0 => ?_
  refine T_auto TT_ok rfl ?_
  exact T_ansI TT_ok [(2, none)] rfl rfl (rfl)
theorem sizeSet_q (xs : List GSet) : Ans Tryz.prog 207 [] [vL 5 cSet GSet.z xs] [] (vI xs.length) := by
  refine con_enter Tryz.func207 rfl rfl rfl fun B0 r_ D_ w0 => ?_
  refine T_auto TT_ok rfl ?_
  exact T_ansI TT_ok [(2, none)] rfl rfl (rfl)
theorem sizeInt64_q (xs : List Int) : Ans Tryz.prog 138 [] [vL 1 cInt 0 xs] [] (vI xs.length) := by
  refine con_enter Tryz.func138 rfl rfl rfl fun B0 r_ D_ w0 => ?_
  refine T_auto TT_ok rfl ?_
  exact T_ansI TT_ok [(2, none)] rfl rfl (rfl)
end Go.Proofs.YtcikaknfogpeeaaGreat
namespace Go.Proofs.YtcikaknfogpeeaaGreat
open Go Go.RowKit
set_option linter.unusedVariables false
set_option linter.unusedSimpArgs false
set_option maxRecDepth 4000
def anyN (n : Nat) (p : Nat → Bool) : Bool := (List.range n).any p
theorem anyN_at {n i : Nat} {p : Nat → Bool} (hi : i < n) (h : p i = true) : anyN n p = true := List.any_eq_true.2 ⟨i, List.mem_range.2 hi, h⟩
theorem anyN_no {n : Nat} {p : Nat → Bool} (h : ∀ j, j < n → p j = false) : anyN n p = false := by
  unfold anyN; rw [List.any_eq_false]; intro x hx; rw [h x (List.mem_range.1 hx)]; simp
theorem anyN_get {n : Nat} {p : Nat → Bool} (h : anyN n p = false) : ∀ j, j < n → p j = false := fun j hj => by
  unfold anyN at h; rw [List.any_eq_false] at h; have := h j (List.mem_range.2 hj); simpa using this
theorem anyN_congr {n : Nat} {p q : Nat → Bool} (h : ∀ j, j < n → p j = q j) : anyN n p = anyN n q := by
  cases c : anyN n q with
  | false => exact anyN_no fun j hj => by rw [h j hj]; exact anyN_get c j hj
  | true =>
    obtain ⟨x, hx, h1⟩ := List.any_eq_true.1 c
    exact anyN_at (List.mem_range.1 hx) (by rw [h x (List.mem_range.1 hx)]; exact h1)
def headB (h : Int) : Bool := inB h 0 4000003
def valB (v : Int) : Bool := inB v (-1000000000) 1000000000
def usedB (h : Int) : Bool := bif headB h then (h.tdiv 2).tmod 2 == 1 else false
def verI (h : Int) : Int := if headB h = true then h.tdiv 4 else -1
theorem headB_iff {h : Int} : headB h = true ↔ 0 ≤ h ∧ h ≤ 4000003 := inB_iff
theorem tdiv_nn {a b : Int} (h : 0 ≤ a) : a.tdiv b = a / b := Int.tdiv_eq_ediv_of_nonneg h
theorem tmod_nn {a b : Int} (h : 0 ≤ a) : a.tmod b = a % b := Int.tmod_eq_emod_of_nonneg h
theorem andI_nat {a b : Nat} (h : a < 9223372036854775808) (h2 : b < 9223372036854775808) : andI a b = ((a &&& b : Nat) : Int) := by
  unfold andI
  have e1 : (BitVec.ofInt 64 (a : Int)) = BitVec.ofNat 64 a := by simp
  have e2 : (BitVec.ofInt 64 (b : Int)) = BitVec.ofNat 64 b := by simp
  have e3 : (BitVec.ofNat 64 a &&& BitVec.ofNat 64 b).toNat = a &&& b := by
    rw [BitVec.toNat_and, BitVec.toNat_ofNat, BitVec.toNat_ofNat, Nat.mod_eq_of_lt (by omega), Nat.mod_eq_of_lt (by omega)]
  have h3 : a &&& b ≤ a := Nat.and_le_left
  rw [e1, e2, e3]
  exact IntWalk.i64_in _ (by omega)
theorem land2 (a : Nat) : a &&& 2 = 2 * (a / 2 % 2) := by
  have h1 : (a &&& 2) / 2 = a / 2 % 2 := by rw [Nat.and_div_two]; exact Nat.and_one_is_mod _
  have h2 : ¬ (a &&& 2) % 2 = 1 := fun h => by have := (Nat.and_mod_two_eq_one.1 h).2; omega
  omega
theorem and2 {h : Int} (k : headB h = true) : andI h 2 = 2 * (h / 2 % 2) := by
  obtain ⟨h1, h2⟩ := headB_iff.1 k
  obtain ⟨a, rfl⟩ := Int.eq_ofNat_of_zero_le h1
  rw [show (2 : Int) = ((2 : Nat) : Int) from rfl, andI_nat (by omega) (by decide), land2]; omega
theorem used2 {h : Int} (k : headB h = true) : (andI h 2 == 0) = !usedB h := by
  obtain ⟨h1, h2⟩ := headB_iff.1 k
  unfold usedB
  rw [k, and2 k, tdiv_nn h1, tmod_nn (by omega), Bool.eq_iff_iff]
  simp; omega
theorem ver4 {h : Int} (k : headB h = true) : verI h = h.tdiv 4 := by rw [verI, if_pos k]
theorem tdiv_in {h d : Int} (h1 : 0 ≤ h) (h2 : h ≤ 4000003) (hd : 0 < d) : InR (h.tdiv d) := by
  rw [tdiv_nn h1]
  have h3 : 0 ≤ h / d := Int.ediv_nonneg h1 (by omega)
  have h4 : h / d ≤ h := Int.ediv_le_self _ h1
  unfold InR; omega
theorem spec_Used_q (h : Int) : Ans Tryz.prog 201 [] [vI h] [] (vB (usedB h)) := by
  refine con_enter Tryz.func201 rfl rfl rfl fun B0 r_ D_ w0 => ?_
  refine T_auto TT_ok rfl ?_
  refine RJ_QO TT_ok (spec_HeadOk_q _) rfl rfl (SVs.imp_refl _) rfl rfl ?_ ?_
  · exact ⟨fun _ => (by decide : (2 : Int) ≠ 0), fun k => tdiv_in (inB_iff.1 k).1 (inB_iff.1 k).2 (by decide), fun _ => (by decide : (2 : Int) ≠ 0), trivial⟩
  · exact T_ansB TT_ok [(2, none)] rfl rfl (rfl)
def badCell (x : GCell) : Bool := bif (bif !headB x.head then true else !valB x.value) then true else (bif !usedB x.head then x.value != 0 else false)
def cellsB (xs : List GCell) : Bool := bif ((xs.length : Int) == 6) then !xs.any badCell else false
theorem spec_CellsOk_q (xs : List GCell) : Ans Tryz.prog 127 [] [vL 2 cCell GCell.z xs] [] (vB (cellsB xs)) := by
  refine con_enter Tryz.func127 rfl rfl rfl fun B0 r_ D_ w0 => ?_
  refine T_auto TT_ok rfl ?_
  refine T_condN rfl (fun e => ?_) (fun e => ?_)
  · refine T_auto TT_ok rfl ?_
    exact T_ansB TT_ok [(2, none)] rfl rfl ((by rw [cellsB, beq_eq_false_iff_ne.2 e]; rfl))
  refine T_auto TT_ok rfl ?_
  refine T_loopA (ι := Nat) (fun i => [(3, vI i)]) (fun _ => []) (fun i => i ≤ xs.length ∧ ∀ j, j < i → badCell (xs.getD j GCell.z) = false) (fun i => xs.length - i) 0 [] [] rfl rfl ⟨Nat.zero_le _, fun j hj => absurd hj (Nat.not_lt_zero _)⟩ (by repeat (first | exact trivial | refine And.intro ⟨_, rfl, SV.imp_refl _⟩ ?_)) (by repeat (first | exact trivial | refine And.intro ⟨_, rfl, Ch.imp_refl _⟩ ?_)) ?_
  intro i ⟨h1, h2⟩
  refine T_auto TT_ok rfl ?_
  refine T_condD rfl (fun e2 => ?_) (fun e2 => ?_)
  · have hi : i < xs.length := by omega
    refine T_auto TT_ok rfl ?_
    refine RJ_Q TT_ok (spec_HeadOk_q _) rfl rfl rfl rfl rfl ?_
    refine RJ_Q TT_ok (spec_l1Value_q _) rfl rfl rfl rfl rfl ?_
    refine RJ_Q TT_ok (spec_Used_q _) rfl rfl rfl rfl rfl ?_
    refine T_cond rfl (fun e1 => ?_) (fun e1 => ?_)
    · refine T_auto TT_ok rfl ?_
      exact T_ansB TT_ok [(2, none)] rfl rfl ((by rw [cellsB, any_at hi (p := badCell) e1]; simp))
    · refine T_auto TT_ok rfl ?_
      exact X_inv (i + 1) ⟨hi, before_succ h2 e1⟩ (by omega) (by repeat (first | exact trivial | refine And.intro ⟨_, rfl, SV.imp_refl _⟩ ?_)) (by repeat (first | exact trivial | refine And.intro ⟨_, rfl, Ch.imp_refl _⟩ ?_))
  · refine T_auto TT_ok rfl ?_
    exact T_ansB TT_ok [(2, none)] rfl rfl ((by rw [cellsB, beq_iff_eq.2 e, any_no fun j hj => h2 j (by omega)]; rfl))
theorem badCell_impl (x : GCell) : (bif bif !inB x.head 0 4000003 then true else !inB x.value (-1000000000) 1000000000 then true else bif andI x.head 2 == 0 then x.value != 0 else false) = badCell x := by
  unfold badCell
  cases c : headB x.head with
  | false => rw [show inB x.head 0 4000003 = false from c]; rfl
  | true => rw [used2 c, show inB x.head 0 4000003 = true from c]; rfl
theorem areCells1_q (x : GCell) : Ans Tryz.prog 211 [] [vR (cCell x)] [] (vB (badCell x)) := by
  refine con_enter Tryz.func211 rfl rfl rfl fun B0 r_ D_ w0 => ?_
  refine T_auto TT_ok rfl ?_
  refine RJ_Q TT_ok (impl_isHead_q _) rfl rfl rfl rfl rfl ?_
  refine RJ_Q TT_ok (impl_isValue_q _) rfl rfl rfl rfl rfl ?_
  exact T_ansB TT_ok [(2, none)] rfl rfl (badCell_impl x)
theorem impl_areCells_q (xs : List GCell) (hl : xs.length ≤ 1048576) : Ans Tryz.prog 145 [] [vL 2 cCell GCell.z xs] [] (vB (cellsB xs)) := by
  refine con_enter Tryz.func145 rfl rfl rfl fun B0 r_ D_ w0 => ?_
  refine T_auto TT_ok rfl ?_
  refine RJ_QF TT_ok (containsFuncCell_q xs hl badCell) rfl rfl (SVs.cons (SV.imp_refl _) (SVs.cons (imp_fb (enters_B (by kernel_rfl)) rfl fun args x ⟨n, e1, e2⟩ => by subst e1; subst e2; exact areCells1_q n) rfl)) rfl rfl ?_
  exact T_ansB TT_ok [(2, none)] rfl rfl (rfl)
def badSets (xs : List GSet) (i : Nat) : Bool := bif !setB (xs.getD i GSet.z) then true else bif decide ((i : Int) > 0) then (bif decide ((xs.getD i GSet.z).slot ≤ (xs.getD ((i : Int) - 1).toNat GSet.z).slot) then true else (xs.getD i GSet.z).region != (xs.getD 0 GSet.z).region) else false
def setsB (xs : List GSet) : Bool := !anyN xs.length (badSets xs)
theorem spec_l2Sets_q (xs : List GSet) (hl : xs.length ≤ 1048576) : Ans Tryz.prog 128 [] [vL 5 cSet GSet.z xs] [] (vB (setsB xs)) := by
  refine con_enter Tryz.func128 rfl rfl rfl fun B0 r_ D_ w0 => ?_
  refine T_auto TT_ok rfl ?_
  refine T_loopA (ι := Nat) (fun i => [(3, vI i)]) (fun _ => []) (fun i => i ≤ xs.length ∧ ∀ j, j < i → badSets xs j = false) (fun i => xs.length - i) 0 [] [] rfl rfl ⟨Nat.zero_le _, fun j hj => absurd hj (Nat.not_lt_zero _)⟩ (by repeat (first | exact trivial | refine And.intro ⟨_, rfl, SV.imp_refl _⟩ ?_)) (by repeat (first | exact trivial | refine And.intro ⟨_, rfl, Ch.imp_refl _⟩ ?_)) ?_
  intro i ⟨h1, h2⟩
  refine T_auto TT_ok rfl ?_
  refine T_condD rfl (fun e2 => ?_) (fun e2 => ?_)
  · have hi : i < xs.length := by omega
    refine T_auto TT_ok rfl ?_
    refine T_drawA TT_ok [] rfl rfl fun B0 H0 => ?_
    refine DJ_Q TT_ok (spec_SetOk_q _) rfl rfl rfl rfl rfl rfl ?_
    refine DJ_endA TT_ok rfl ?_
    refine T_cond rfl (fun e1 => ?_) (fun e1 => ?_)
    · refine T_auto TT_ok rfl ?_
      exact T_ansB TT_ok [(2, none)] rfl rfl ((by rw [setsB, anyN_at hi e1]; rfl))
    · refine T_auto TT_ok rfl ?_
      exact X_inv (i + 1) ⟨hi, before_succ h2 e1⟩ (by omega) (by repeat (first | exact trivial | refine And.intro ⟨_, rfl, SV.imp_refl _⟩ ?_)) (by repeat (first | exact trivial | refine And.intro ⟨_, rfl, Ch.imp_refl _⟩ ?_))
  · refine T_auto TT_ok rfl ?_
    exact T_ansB TT_ok [(2, none)] rfl rfl ((by rw [setsB, anyN_no fun j hj => h2 j (by omega)]; rfl))
theorem badSets_impl (xs : List GSet) (i : Nat) : (bif (bif !setB (xs.getD i GSet.z) then true else (xs.getD i GSet.z).region != (xs.getD 0 GSet.z).region) then true else bif decide ((i : Int) > 0) then decide ((xs.getD ((i : Int) - 1).toNat GSet.z).slot ≥ (xs.getD i GSet.z).slot) else false) = badSets xs i := by
  unfold badSets
  cases setB (xs.getD i GSet.z) with
  | false => rfl
  | true =>
    rcases Nat.eq_zero_or_pos i with h | h
    · subst h; simp
    · rw [decide_eq_true (by omega : (i : Int) > 0)]
      simp only [Bool.not_true, Bool.cond_false, Bool.cond_true]
      cases (xs.getD i GSet.z).region != (xs.getD 0 GSet.z).region <;> cases c : decide ((xs.getD i GSet.z).slot ≤ (xs.getD ((i : Int) - 1).toNat GSet.z).slot) <;> simp at c ⊢ <;> omega
theorem impl_areSets_q (xs : List GSet) (hl : xs.length ≤ 1048576) : Ans Tryz.prog 208 [] [vL 5 cSet GSet.z xs] [] (vB (setsB xs)) := by
  refine con_enter Tryz.func208 rfl rfl rfl fun B0 r_ D_ w0 => ?_
  refine T_auto TT_ok rfl ?_
  refine T_loopA (ι := Nat) (fun i => [(7, vI i)]) (fun _ => []) (fun i => i ≤ xs.length ∧ ∀ j, j < i → badSets xs j = false) (fun i => xs.length - i) 0 [] [] rfl rfl ⟨Nat.zero_le _, fun j hj => absurd hj (Nat.not_lt_zero _)⟩ (by repeat (first | exact trivial | refine And.intro ⟨_, rfl, SV.imp_refl _⟩ ?_)) (by repeat (first | exact trivial | refine And.intro ⟨_, rfl, Ch.imp_refl _⟩ ?_)) ?_
  intro i ⟨h1, h2⟩
  refine T_auto TT_ok rfl ?_
  refine T_condD rfl (fun e2 => ?_) (fun e2 => ?_)
  · have hi : i < xs.length := by omega
    refine T_auto TT_ok rfl ?_
    refine T_drawA TT_ok [] rfl rfl fun B0 H0 => ?_
    refine DJ_Q TT_ok (impl_isSet_q _) rfl rfl rfl rfl rfl rfl ?_
    refine DJ_endA TT_ok rfl ?_
    refine T_cond rfl (fun e1 => ?_) (fun e1 => ?_)
    · refine T_auto TT_ok rfl ?_
      exact T_ansB TT_ok [(2, none)] rfl rfl ((by rw [setsB, anyN_at hi ((badSets_impl xs i).symm.trans e1)]; rfl))
    · refine T_auto TT_ok rfl ?_
      exact X_inv (i + 1) ⟨hi, before_succ h2 ((badSets_impl xs i).symm.trans e1)⟩ (by omega) (by repeat (first | exact trivial | refine And.intro ⟨_, rfl, SV.imp_refl _⟩ ?_)) (by repeat (first | exact trivial | refine And.intro ⟨_, rfl, Ch.imp_refl _⟩ ?_))
  · refine T_auto TT_ok rfl ?_
    exact T_ansB TT_ok [(2, none)] rfl rfl ((by rw [setsB, anyN_no fun j hj => h2 j (by omega)]; rfl))
theorem setsB_get {xs : List GSet} (h : setsB xs = true) {i : Nat} (hi : i < xs.length) : setB (xs.getD i GSet.z) = true ∧ (xs.getD i GSet.z).region = (xs.getD 0 GSet.z).region := by
  have h1 := anyN_get (n := xs.length) (p := badSets xs) (by simpa [setsB] using h) i hi
  rw [← badSets_impl] at h1
  cases c : setB (xs.getD i GSet.z) with
  | false => rw [c] at h1; cases h1
  | true =>
    rw [c] at h1
    refine ⟨rfl, ?_⟩
    cases c2 : (xs.getD i GSet.z).region != (xs.getD 0 GSet.z).region with
    | false => simpa using c2
    | true => rw [c2] at h1; cases h1
def recB (r : GRecord) : Bool := bif (bif (bif (bif (bif (bif inB r.kind 1 3 then inB r.tx 1 1000000 else false) then inB r.region 0 5 else false) then decide ((r.sets.length : Int) ≥ 1) else false) then decide ((r.sets.length : Int) ≤ 12) else false) then setsB r.sets else false) then (r.sets.getD 0 GSet.z).region == r.region else false
theorem spec_RecordOk_q (r : GRecord) (hl : r.sets.length ≤ 1048576) : Ans Tryz.prog 180 [] [vR (cRecord r)] [] (vB (recB r)) := by
  refine con_enter Tryz.func180 rfl rfl rfl fun B0 r_ D_ w0 => ?_
  refine T_auto TT_ok rfl ?_
  refine T_drawA TT_ok [] rfl rfl fun B0 H0 => ?_
  refine DJ_Q TT_ok (spec_l1In_q _ _ _) rfl rfl rfl rfl rfl rfl ?_
  refine DJ_Q TT_ok (spec_l1Id_q _) rfl rfl rfl rfl rfl rfl ?_
  refine DJ_Q TT_ok (spec_l1Region_q _) rfl rfl rfl rfl rfl rfl ?_
  refine DJ_Q TT_ok (spec_l2Sets_q _ hl) rfl rfl rfl rfl rfl rfl ?_
  refine DJ_endA TT_ok rfl ?_
  exact T_ansB TT_ok [(2, none)] rfl rfl (rfl)
theorem rec_impl (r : GRecord) : (bif (bif (bif (bif (bif inB r.kind 1 3 then inB r.tx 1 1000000 else false) then inB r.region 0 5 else false) then inB r.sets.length 1 12 else false) then setsB r.sets else false) then !(r.sets.any fun s => s.region != r.region) else false) = recB r := by
  unfold recB
  cases (bif (bif inB r.kind 1 3 then inB r.tx 1 1000000 else false) then inB r.region 0 5 else false) with
  | false => rfl
  | true =>
    simp only [Bool.cond_true]
    unfold inB
    cases c1 : decide ((r.sets.length : Int) ≥ 1) with
    | false => rfl
    | true =>
      simp only [Bool.cond_true]
      cases c2 : decide ((r.sets.length : Int) ≤ 12) with
      | false => rfl
      | true =>
        simp only [Bool.cond_true]
        cases c3 : setsB r.sets with
        | false => rfl
        | true =>
          simp only [Bool.cond_true]
          have hp : 0 < r.sets.length := by simp at c1; omega
          cases c4 : (r.sets.getD 0 GSet.z).region == r.region with
          | true =>
            have e := beq_iff_eq.1 c4
            rw [any_no (z := GSet.z) fun j hj => ?_]; · rfl
            have := (setsB_get c3 hj).2
            simp only [bne_eq_false_iff_eq]; rw [this, e]
          | false =>
            have e := beq_eq_false_iff_ne.1 c4
            rw [any_at (z := GSet.z) hp (by simpa using e)]; rfl
theorem isRecord1_q (s : GSet) (rc : GRecord) : Ans Tryz.prog 209 [] [vR (cSet s), vP (cRecord rc)] [] (vB (s.region != rc.region)) := by
  refine con_enter Tryz.func209 rfl rfl rfl fun B0 r_ D_ w0 => ?_
  refine T_auto TT_ok rfl ?_
  exact T_ansB TT_ok [(3, none)] rfl rfl (rfl)
theorem impl_isRecord_q (rc : GRecord) (hl : rc.sets.length ≤ 1048576) : Ans Tryz.prog 143 [] [vR (cRecord rc)] [] (vB (recB rc)) := by
  refine con_enter Tryz.func143 rfl rfl rfl fun B0 r_ D_ w0 => ?_
  refine T_auto TT_ok rfl ?_
  refine RJ_Q TT_ok (impl_within_q _ _ _) rfl rfl rfl rfl rfl ?_
  refine RJ_Q TT_ok (impl_isId_q _) rfl rfl rfl rfl rfl ?_
  refine RJ_Q TT_ok (impl_isRegion_q _) rfl rfl rfl rfl rfl ?_
  refine RJ_Q TT_ok (sizeSet_q _) rfl rfl rfl rfl rfl ?_
  refine RJ_Q TT_ok (impl_within_q _ _ _) rfl rfl rfl rfl rfl ?_
  refine RJ_Q TT_ok (impl_areSets_q _ hl) rfl rfl rfl rfl rfl ?_
  refine RJ_QF TT_ok (containsFuncSet_q rc.sets hl fun s => s.region != rc.region) rfl rfl (SVs.cons (SV.imp_refl _) (SVs.cons (imp_fb (enters_B (by kernel_rfl)) rfl fun args x ⟨n, e1, e2⟩ => by subst e1; subst e2; exact isRecord1_q n rc) rfl)) rfl rfl ?_
  exact T_ansB TT_ok [(2, none)] rfl rfl (rec_impl rc)
def badCl (xs : List Int) (i : Nat) : Bool := bif !inB (xs.getD i 0) 1 1000000 then true else bif decide ((i : Int) > 0) then decide (xs.getD i 0 ≤ xs.getD ((i : Int) - 1).toNat 0) else false
def risesB (xs : List Int) : Bool := !anyN xs.length (badCl xs)
theorem spec_l6Rises_q (xs : List Int) (hl : xs.length ≤ 1048576) : Ans Tryz.prog 178 [] [vL 1 cInt 0 xs] [] (vB (risesB xs)) := by
  refine con_enter Tryz.func178 rfl rfl rfl fun B0 r_ D_ w0 => ?_
  refine T_auto TT_ok rfl ?_
  refine T_loopA (ι := Nat) (fun i => [(3, vI i)]) (fun _ => []) (fun i => i ≤ xs.length ∧ ∀ j, j < i → badCl xs j = false) (fun i => xs.length - i) 0 [] [] rfl rfl ⟨Nat.zero_le _, fun j hj => absurd hj (Nat.not_lt_zero _)⟩ (by repeat (first | exact trivial | refine And.intro ⟨_, rfl, SV.imp_refl _⟩ ?_)) (by repeat (first | exact trivial | refine And.intro ⟨_, rfl, Ch.imp_refl _⟩ ?_)) ?_
  intro i ⟨h1, h2⟩
  refine T_auto TT_ok rfl ?_
  refine T_condD rfl (fun e2 => ?_) (fun e2 => ?_)
  · have hi : i < xs.length := by omega
    refine T_auto TT_ok rfl ?_
    refine T_drawA TT_ok [] rfl rfl fun B0 H0 => ?_
    refine DJ_Q TT_ok (spec_l1Id_q _) rfl rfl rfl rfl rfl rfl ?_
    refine DJ_endA TT_ok rfl ?_
    refine T_cond rfl (fun e1 => ?_) (fun e1 => ?_)
    · refine T_auto TT_ok rfl ?_
      exact T_ansB TT_ok [(2, none)] rfl rfl ((by rw [risesB, anyN_at (p := badCl xs) hi e1]; rfl))
    · refine T_auto TT_ok rfl ?_
      exact X_inv (i + 1) ⟨hi, before_succ h2 e1⟩ (by omega) (by repeat (first | exact trivial | refine And.intro ⟨_, rfl, SV.imp_refl _⟩ ?_)) (by repeat (first | exact trivial | refine And.intro ⟨_, rfl, Ch.imp_refl _⟩ ?_))
  · refine T_auto TT_ok rfl ?_
    exact T_ansB TT_ok [(2, none)] rfl rfl ((by rw [risesB, anyN_no fun j hj => h2 j (by omega)]; rfl))
def badCopy (xs : List GCopy) (i : Nat) : Bool := bif (bif !inB (xs.getD i GCopy.z).region 0 5 then true else !cellsB (xs.getD i GCopy.z).cells) then true else bif decide ((i : Int) > 0) then decide ((xs.getD i GCopy.z).region ≤ (xs.getD ((i : Int) - 1).toNat GCopy.z).region) else false
def MachOk (m : GMachine) : Prop := (m.copies.length ≤ 6 ∧ m.log.length ≤ 200 ∧ m.cleared.length ≤ 60) ∧ risesB m.cleared = true ∧ (∀ j, j < m.copies.length → badCopy m.copies j = false) ∧ ∀ j, j < m.log.length → recB (m.log.getD j GRecord.z) = true
theorem spec_MachineOk_q (m : GMachine) (hb : D.bds bigN (cMachine m)) : Ans Tryz.prog 108 [] [vR (cMachine m)] [] (vB (dec (MachOk m))) := by
  have b1 : m.copies.length ≤ 1048576 := hb.2.1.1
  have b2 : m.log.length ≤ 1048576 := hb.2.2.1.1
  have b3 : m.cleared.length ≤ 1048576 := hb.2.2.2.1.1
  refine con_enter Tryz.func108 rfl rfl rfl fun B0 r_ D_ w0 => ?_
  refine T_auto TT_ok rfl ?_
  refine RJ_Q TT_ok (spec_l6Rises_q _ b3) rfl rfl rfl rfl rfl ?_
  refine T_cond rfl (fun e => ?_) (fun e => ?_)
  · refine T_auto TT_ok rfl ?_
    exact T_ansB TT_ok [(2, none)] rfl rfl ((dec_false fun h => by have h1 := h.1; simp [h.2.1] at e; omega).symm)
  have hH : (m.copies.length ≤ 6 ∧ m.log.length ≤ 200 ∧ m.cleared.length ≤ 60) ∧ risesB m.cleared = true := by
    simp at e; exact ⟨by omega, e.2⟩
  clear e
  refine T_auto TT_ok rfl ?_
  refine T_loopA (ι := Nat) (fun i => [(3, vI i)]) (fun _ => []) (fun i => i ≤ m.copies.length ∧ ∀ j, j < i → badCopy m.copies j = false) (fun i => m.copies.length - i) 0 [] [] rfl rfl ⟨Nat.zero_le _, fun j hj => absurd hj (Nat.not_lt_zero _)⟩ (by repeat (first | exact trivial | refine And.intro ⟨_, rfl, SV.imp_refl _⟩ ?_)) (by repeat (first | exact trivial | refine And.intro ⟨_, rfl, Ch.imp_refl _⟩ ?_)) ?_
  intro i ⟨h1, h2⟩
  refine T_auto TT_ok rfl ?_
  refine T_condD rfl (fun e2 => ?_) (fun e2 => ?_)
  · have hi : i < m.copies.length := by omega
    refine T_auto TT_ok rfl ?_
    refine T_drawA TT_ok [] rfl rfl fun B0 H0 => ?_
    refine DJ_Q TT_ok (spec_l1Region_q _) rfl rfl rfl rfl rfl rfl ?_
    refine DJ_Q TT_ok (spec_CellsOk_q _) rfl rfl rfl rfl rfl rfl ?_
    refine DJ_endA TT_ok rfl ?_
    refine T_cond rfl (fun e1 => ?_) (fun e1 => ?_)
    · refine T_auto TT_ok rfl ?_
      exact T_ansB TT_ok [(2, none)] rfl rfl ((dec_false fun h => by have := (h.2.2.1 i hi).symm.trans e1; cases this).symm)
    · refine T_auto TT_ok rfl ?_
      exact X_inv (i + 1) ⟨hi, before_succ h2 e1⟩ (by omega) (by repeat (first | exact trivial | refine And.intro ⟨_, rfl, SV.imp_refl _⟩ ?_)) (by repeat (first | exact trivial | refine And.intro ⟨_, rfl, Ch.imp_refl _⟩ ?_))
  have hi : i = m.copies.length := by omega
  subst hi
  refine T_auto TT_ok rfl ?_
  refine T_loopA (ι := Nat) (fun i => [(4, vI i)]) (fun _ => []) (fun i => i ≤ m.log.length ∧ ∀ j, j < i → recB (m.log.getD j GRecord.z) = true) (fun i => m.log.length - i) 0 [] [] rfl rfl ⟨Nat.zero_le _, fun j hj => absurd hj (Nat.not_lt_zero _)⟩ (by repeat (first | exact trivial | refine And.intro ⟨_, rfl, SV.imp_refl _⟩ ?_)) (by repeat (first | exact trivial | refine And.intro ⟨_, rfl, Ch.imp_refl _⟩ ?_)) ?_
  intro i ⟨h3, h4⟩
  refine T_auto TT_ok rfl ?_
  refine T_condD rfl (fun e3 => ?_) (fun e3 => ?_)
  · have hi : i < m.log.length := by omega
    refine T_auto TT_ok rfl ?_
    refine RJ_Q TT_ok (spec_RecordOk_q _ (hb.2.2.1.2 i hi).2.2.2.1.1) rfl rfl rfl rfl rfl ?_
    refine T_condX rfl (fun e1 => ?_) (fun e1 => ?_)
    · refine T_auto TT_ok rfl ?_
      exact T_ansB TT_ok [(2, none)] rfl rfl ((dec_false fun h => by have := (h.2.2.2 i hi).symm.trans e1; cases this).symm)
    · refine T_auto TT_ok rfl ?_
      exact X_inv (i + 1) ⟨hi, before_succ h4 e1⟩ (by omega) (by repeat (first | exact trivial | refine And.intro ⟨_, rfl, SV.imp_refl _⟩ ?_)) (by repeat (first | exact trivial | refine And.intro ⟨_, rfl, Ch.imp_refl _⟩ ?_))
  · refine T_auto TT_ok rfl ?_
    exact T_ansB TT_ok [(2, none)] rfl rfl ((dec_true ⟨hH.1, hH.2, h2, fun j hj => h4 j (by omega)⟩).symm)
theorem isMachineOk1_q (r : GRecord) (hl : r.sets.length ≤ 1048576) : Ans Tryz.prog 142 [] [vR (cRecord r)] [] (vB (!recB r)) := by
  refine con_enter Tryz.func142 rfl rfl rfl fun B0 r_ D_ w0 => ?_
  refine T_auto TT_ok rfl ?_
  refine RJ_Q TT_ok (impl_isRecord_q _ hl) rfl rfl rfl rfl rfl ?_
  exact T_ansB TT_ok [(2, none)] rfl rfl (rfl)
theorem impl_isMachineOk_q (m : GMachine) (hb : D.bds bigN (cMachine m)) : Ans Tryz.prog 76 [] [vR (cMachine m)] [] (vB (dec (MachOk m))) := by
  have b1 : m.copies.length ≤ 1048576 := hb.2.1.1
  have b2 : m.log.length ≤ 1048576 := hb.2.2.1.1
  have b3 : m.cleared.length ≤ 1048576 := hb.2.2.2.1.1
  refine con_enter Tryz.func76 rfl rfl rfl fun B0 r_ D_ w0 => ?_
  refine T_auto TT_ok rfl ?_
  refine RJ_QF TT_ok (containsFuncRecord_p m.log b2 (fun r => r.sets.length ≤ 1048576) (fun i hi => (hb.2.2.1.2 i hi).2.2.2.1.1) fun r => !recB r) rfl rfl (SVs.cons (SV.imp_refl _) (SVs.cons (imp_fb (enters_B (by kernel_rfl)) rfl fun args x ⟨n, hn, e1, e2⟩ => by subst e1; subst e2; exact isMachineOk1_q n hn) rfl)) rfl rfl ?_
  refine T_cond rfl (fun e => ?_) (fun e => ?_)
  · refine T_auto TT_ok rfl ?_
    exact T_ansB TT_ok [(2, none)] rfl rfl ((dec_false fun h => by have h1 := h.1; rw [any_no (z := GRecord.z) fun j hj => by rw [h.2.2.2 j hj]; rfl] at e; simp at e; omega).symm)
  have hH : (m.copies.length ≤ 6 ∧ m.log.length ≤ 200 ∧ m.cleared.length ≤ 60) ∧ (m.log.any fun r => !recB r) = false := by
    cases c : m.log.any fun r => !recB r with
    | true => rw [c] at e; simp at e
    | false => rw [c] at e; simp at e; exact ⟨by omega, rfl⟩
  have hR : ∀ j, j < m.log.length → recB (m.log.getD j GRecord.z) = true := fun j hj => by simpa using any_get (z := GRecord.z) hH.2 j hj
  clear e
  refine T_auto TT_ok rfl ?_
  refine T_loopA (ι := Nat) (fun i => [(31, vI i)]) (fun _ => []) (fun i => i ≤ m.copies.length ∧ ∀ j, j < i → badCopy m.copies j = false) (fun i => m.copies.length - i) 0 [] [] rfl rfl ⟨Nat.zero_le _, fun j hj => absurd hj (Nat.not_lt_zero _)⟩ (by repeat (first | exact trivial | refine And.intro ⟨_, rfl, SV.imp_refl _⟩ ?_)) (by repeat (first | exact trivial | refine And.intro ⟨_, rfl, Ch.imp_refl _⟩ ?_)) ?_
  intro i ⟨h1, h2⟩
  refine T_auto TT_ok rfl ?_
  refine T_condD rfl (fun e2 => ?_) (fun e2 => ?_)
  · have hi : i < m.copies.length := by omega
    refine T_auto TT_ok rfl ?_
    refine T_drawA TT_ok [] rfl rfl fun B0 H0 => ?_
    refine DJ_Q TT_ok (impl_isRegion_q _) rfl rfl rfl rfl rfl rfl ?_
    refine DJ_Q TT_ok (impl_areCells_q _ (hb.2.1.2 i hi).2.1.1) rfl rfl rfl rfl rfl rfl ?_
    refine DJ_endA TT_ok rfl ?_
    refine T_cond rfl (fun e1 => ?_) (fun e1 => ?_)
    · refine T_auto TT_ok rfl ?_
      exact T_ansB TT_ok [(2, none)] rfl rfl ((dec_false fun h => by have := (h.2.2.1 i hi).symm.trans e1; cases this).symm)
    · refine T_auto TT_ok rfl ?_
      exact X_inv (i + 1) ⟨hi, before_succ h2 e1⟩ (by omega) (by repeat (first | exact trivial | refine And.intro ⟨_, rfl, SV.imp_refl _⟩ ?_)) (by repeat (first | exact trivial | refine And.intro ⟨_, rfl, Ch.imp_refl _⟩ ?_))
  have hi : i = m.copies.length := by omega
  subst hi
  refine T_auto TT_ok rfl ?_
  refine T_loopA (ι := Nat) (fun i => [(66, vI i)]) (fun _ => []) (fun i => i ≤ m.cleared.length ∧ ∀ j, j < i → badCl m.cleared j = false) (fun i => m.cleared.length - i) 0 [] [] rfl rfl ⟨Nat.zero_le _, fun j hj => absurd hj (Nat.not_lt_zero _)⟩ (by repeat (first | exact trivial | refine And.intro ⟨_, rfl, SV.imp_refl _⟩ ?_)) (by repeat (first | exact trivial | refine And.intro ⟨_, rfl, Ch.imp_refl _⟩ ?_)) ?_
  intro i ⟨h3, h4⟩
  refine T_auto TT_ok rfl ?_
  refine T_condD rfl (fun e3 => ?_) (fun e3 => ?_)
  · have hi : i < m.cleared.length := by omega
    refine T_auto TT_ok rfl ?_
    refine RJ_Q TT_ok (impl_isId_q _) rfl rfl rfl rfl rfl ?_
    refine T_cond rfl (fun e1 => ?_) (fun e1 => ?_)
    · refine T_auto TT_ok rfl ?_
      exact T_ansB TT_ok [(2, none)] rfl rfl ((dec_false fun h => by have h1 := h.2.1; rw [risesB, anyN_at (p := badCl m.cleared) hi e1] at h1; cases h1).symm)
    · refine T_auto TT_ok rfl ?_
      exact X_inv (i + 1) ⟨hi, before_succ h4 e1⟩ (by omega) (by repeat (first | exact trivial | refine And.intro ⟨_, rfl, SV.imp_refl _⟩ ?_)) (by repeat (first | exact trivial | refine And.intro ⟨_, rfl, Ch.imp_refl _⟩ ?_))
  · refine T_auto TT_ok rfl ?_
    exact T_ansB TT_ok [(2, none)] rfl rfl ((dec_true ⟨hH.1, by rw [risesB, anyN_no fun j hj => h4 j (by omega)]; rfl, h2, hR⟩).symm)
def badPl (l : List Int) (k : Nat) : Bool := bif !inB (l.getD k 0) 0 7 then true else decide (l.getD k 0 ∈ l.take k)
def plOk (p : GPlace) : Prop := (1 ≤ p.machines.length ∧ p.machines.length ≤ 3) ∧ ∀ k, k < p.machines.length → badPl p.machines k = false
def PlOk (ps : List GPlace) : Prop := (1 ≤ ps.length ∧ ps.length ≤ 6) ∧ ∀ r, r < ps.length → plOk (ps.getD r GPlace.z)
theorem imp_take {P : Program} {α : Type} {sz k : Nat} {enc : α → List D} {z : α} {xs : List α} (hk : k ≤ xs.length) : (SV.a (.s .r sz k fun i => enc (xs.getD i z))).imp P (vL sz enc z (xs.take k)) := by
  have h : (SV.a (.s .r sz k fun i => enc (xs.getD i z))).imp P (.a (.s .r sz k fun i => enc ((xs.take k).getD i z))) := SV.imp_s fun i hi => by rw [getD_take (by rw [List.length_take]; omega)]
  have e : (xs.take k).length = k := by rw [List.length_take]; omega
  show SV.imp P _ (.a (.s .r sz (xs.take k).length _))
  rw [e]; exact h
theorem l3Has_take (l : List Int) (k : Nat) (hk : k ≤ l.length) (hl : l.length ≤ 1048576) (n : Int) : Ans Tryz.prog 46 [] [.a (.s .r 1 k fun i => cInt (l.getD i 0)), vI n] [] (vB (decide (n ∈ l.take k))) :=
  (l3Has_q (l.take k) (by rw [List.length_take]; omega) n).wkA ⟨_, _, rfl, imp_take hk, SVs.imp_refl _⟩
theorem contains_take (l : List Int) (k : Nat) (hk : k ≤ l.length) (hl : l.length ≤ 1048576) (n : Int) : Ans Tryz.prog 119 [] [.a (.s .r 1 k fun i => cInt (l.getD i 0)), vI n] [] (vB (decide (n ∈ l.take k))) :=
  (contains_Int_q (l.take k) (by rw [List.length_take]; omega) n).wkA ⟨_, _, rfl, imp_take hk, SVs.imp_refl _⟩
theorem spec_PlacesOk_q (ps : List GPlace) : Ans Tryz.prog 107 [] [vL 1 cPlace GPlace.z ps] [] (vB (dec (PlOk ps))) := by
  refine con_enter Tryz.func107 rfl rfl rfl fun B0 r_ D_ w0 => ?_
  refine T_auto TT_ok rfl ?_
  refine T_cond rfl (fun e => ?_) (fun e => ?_)
  · refine T_auto TT_ok rfl ?_
    exact T_ansB TT_ok [(2, none)] rfl rfl ((dec_false fun h => by have := h.1; simp at e; omega).symm)
  have hH : 1 ≤ ps.length ∧ ps.length ≤ 6 := by simp at e; omega
  clear e
  refine T_auto TT_ok rfl ?_
  refine T_loopA (ι := Nat) (fun i => [(3, vI i)]) (fun _ => []) (fun i => i ≤ ps.length ∧ ∀ j, j < i → plOk (ps.getD j GPlace.z)) (fun i => ps.length - i) 0 [] [] rfl rfl ⟨Nat.zero_le _, fun j hj => absurd hj (Nat.not_lt_zero _)⟩ (by repeat (first | exact trivial | refine And.intro ⟨_, rfl, SV.imp_refl _⟩ ?_)) (by repeat (first | exact trivial | refine And.intro ⟨_, rfl, Ch.imp_refl _⟩ ?_)) ?_
  intro i ⟨h1, h2⟩
  refine T_auto TT_ok rfl ?_
  refine T_condD rfl (fun e2 => ?_) (fun e2 => ?_)
  · have hi : i < ps.length := by omega
    refine T_auto TT_ok rfl ?_
    refine T_cond rfl (fun e => ?_) (fun e => ?_)
    · refine T_auto TT_ok rfl ?_
      exact T_ansB TT_ok [(2, none)] rfl rfl ((dec_false fun h => by have := (h.2 i hi).1; simp at e this; omega).symm)
    have hp : 1 ≤ (ps.getD i GPlace.z).machines.length ∧ (ps.getD i GPlace.z).machines.length ≤ 3 := by simp at e ⊢; omega
    clear e
    refine T_auto TT_ok rfl ?_
    refine T_loopA (ι := Nat) (fun k => [(5, vI k)]) (fun _ => []) (fun k => k ≤ (ps.getD i GPlace.z).machines.length ∧ ∀ j, j < k → badPl (ps.getD i GPlace.z).machines j = false) (fun k => (ps.getD i GPlace.z).machines.length - k) 0 [] [] rfl rfl ⟨Nat.zero_le _, fun j hj => absurd hj (Nat.not_lt_zero _)⟩ (by repeat (first | exact trivial | refine And.intro ⟨_, rfl, SV.imp_refl _⟩ ?_)) (by repeat (first | exact trivial | refine And.intro ⟨_, rfl, Ch.imp_refl _⟩ ?_)) ?_
    intro k ⟨h3, h4⟩
    refine T_auto TT_ok rfl ?_
    refine T_condD rfl (fun e3 => ?_) (fun e3 => ?_)
    · have hk : k < (ps.getD i GPlace.z).machines.length := by simp at e3 ⊢; omega
      refine T_auto TT_ok rfl ?_
      refine T_drawA TT_ok [] rfl rfl fun B0 H0 => ?_
      refine DJ_Q TT_ok (spec_l1Machine_q _) rfl rfl rfl rfl rfl rfl ?_
      refine DJ_Q TT_ok (l3Has_take (ps.getD i GPlace.z).machines k h3 (by omega) _) rfl rfl rfl rfl rfl rfl ?_
      refine DJ_endA TT_ok rfl ?_
      refine T_cond rfl (fun e1 => ?_) (fun e1 => ?_)
      · refine T_auto TT_ok rfl ?_
        exact T_ansB TT_ok [(2, none)] rfl rfl ((dec_false fun h => by have := ((h.2 i hi).2 k hk).symm.trans e1; cases this).symm)
      · refine T_auto TT_ok rfl ?_
        exact X_inv (k + 1) ⟨hk, before_succ h4 e1⟩ (by omega) (by repeat (first | exact trivial | refine And.intro ⟨_, rfl, SV.imp_refl _⟩ ?_)) (by repeat (first | exact trivial | refine And.intro ⟨_, rfl, Ch.imp_refl _⟩ ?_))
    · refine T_auto TT_ok rfl ?_
      exact X_inv (i + 1) ⟨hi, before_succ h2 ⟨hp, fun j hj => h4 j (by simp at e3 hj; omega)⟩⟩ (by omega) (by repeat (first | exact trivial | refine And.intro ⟨_, rfl, SV.imp_refl _⟩ ?_)) (by repeat (first | exact trivial | refine And.intro ⟨_, rfl, Ch.imp_refl _⟩ ?_))
  · refine T_auto TT_ok rfl ?_
    exact T_ansB TT_ok [(2, none)] rfl rfl ((dec_true ⟨hH, fun j hj => h2 j (by omega)⟩).symm)
theorem impl_arePlaces_q (ps : List GPlace) (hl : ps.length ≤ 1048576) (hm : ∀ i, i < ps.length → (ps.getD i GPlace.z).machines.length ≤ 1048576) : Ans Tryz.prog 73 [] [vL 1 cPlace GPlace.z ps] [] (vB (dec (PlOk ps))) := by
  refine con_enter Tryz.func73 rfl rfl rfl fun B0 r_ D_ w0 => ?_
  refine T_auto TT_ok rfl ?_
  refine T_loopA (ι := Nat) (fun i => [(9, vI i)]) (fun _ => []) (fun i => i ≤ ps.length ∧ ∀ j, j < i → plOk (ps.getD j GPlace.z)) (fun i => ps.length - i) 0 [] [] rfl rfl ⟨Nat.zero_le _, fun j hj => absurd hj (Nat.not_lt_zero _)⟩ (by repeat (first | exact trivial | refine And.intro ⟨_, rfl, SV.imp_refl _⟩ ?_)) (by repeat (first | exact trivial | refine And.intro ⟨_, rfl, Ch.imp_refl _⟩ ?_)) ?_
  intro i ⟨h1, h2⟩
  refine T_auto TT_ok rfl ?_
  refine T_condD rfl (fun e2 => ?_) (fun e2 => ?_)
  · have hi : i < ps.length := by omega
    have hml := hm i hi
    refine T_auto TT_ok rfl ?_
    refine RJ_Q TT_ok (sizeInt64_q _) rfl rfl rfl rfl rfl ?_
    refine RJ_Q TT_ok (impl_within_q _ _ _) rfl rfl rfl rfl rfl ?_
    refine T_condX rfl (fun e => ?_) (fun e => ?_)
    · refine T_auto TT_ok rfl ?_
      exact T_ansB TT_ok [(2, none)] rfl rfl ((dec_false fun h => by have := (h.2 i hi).1; exact inB_not.1 e ⟨by simp at this ⊢; omega, by simp at this ⊢; omega⟩).symm)
    have hp : 1 ≤ (ps.getD i GPlace.z).machines.length ∧ (ps.getD i GPlace.z).machines.length ≤ 3 := by have := inB_iff.1 e; simp at this ⊢; omega
    clear e
    refine T_auto TT_ok rfl ?_
    refine T_loopA (ι := Nat) (fun k => [(21, vI k)]) (fun _ => []) (fun k => k ≤ (ps.getD i GPlace.z).machines.length ∧ ∀ j, j < k → badPl (ps.getD i GPlace.z).machines j = false) (fun k => (ps.getD i GPlace.z).machines.length - k) 0 [] [] rfl rfl ⟨Nat.zero_le _, fun j hj => absurd hj (Nat.not_lt_zero _)⟩ (by repeat (first | exact trivial | refine And.intro ⟨_, rfl, SV.imp_refl _⟩ ?_)) (by repeat (first | exact trivial | refine And.intro ⟨_, rfl, Ch.imp_refl _⟩ ?_)) ?_
    intro k ⟨h3, h4⟩
    refine T_auto TT_ok rfl ?_
    refine T_condD rfl (fun e3 => ?_) (fun e3 => ?_)
    · have hk : k < (ps.getD i GPlace.z).machines.length := by simp at e3 ⊢; omega
      refine T_auto TT_ok rfl ?_
      refine RJ_Q TT_ok (impl_isMachine_q _) rfl rfl rfl rfl rfl ?_
      refine RJ_Q TT_ok (contains_take (ps.getD i GPlace.z).machines k h3 (by omega) _) rfl rfl rfl rfl rfl ?_
      refine T_cond rfl (fun e1 => ?_) (fun e1 => ?_)
      · refine T_auto TT_ok rfl ?_
        exact T_ansB TT_ok [(2, none)] rfl rfl ((dec_false fun h => by have := ((h.2 i hi).2 k hk).symm.trans e1; cases this).symm)
      · refine T_auto TT_ok rfl ?_
        exact X_inv (k + 1) ⟨hk, before_succ h4 e1⟩ (by omega) (by repeat (first | exact trivial | refine And.intro ⟨_, rfl, SV.imp_refl _⟩ ?_)) (by repeat (first | exact trivial | refine And.intro ⟨_, rfl, Ch.imp_refl _⟩ ?_))
    · refine T_auto TT_ok rfl ?_
      exact X_inv (i + 1) ⟨hi, before_succ h2 ⟨hp, fun j hj => h4 j (by simp at e3 hj; omega)⟩⟩ (by omega) (by repeat (first | exact trivial | refine And.intro ⟨_, rfl, SV.imp_refl _⟩ ?_)) (by repeat (first | exact trivial | refine And.intro ⟨_, rfl, Ch.imp_refl _⟩ ?_))
  · have hi : i = ps.length := by omega
    subst hi
    refine T_auto TT_ok rfl ?_
    refine RJ_Q TT_ok (sizePlace_q _) rfl rfl rfl rfl rfl ?_
    refine RJ_Q TT_ok (impl_within_q _ _ _) rfl rfl rfl rfl rfl ?_
    exact T_ansB TT_ok [(2, none)] rfl rfl ((by rw [Bool.eq_iff_iff, inB_iff, dec_iff]; exact ⟨fun h => ⟨by omega, h2⟩, fun h => by have := h.1; omega⟩))
end Go.Proofs.YtcikaknfogpeeaaGreat
namespace Go.Proofs.YtcikaknfogpeeaaGreat
open Go Go.RowKit
set_option linter.unusedVariables false
set_option linter.unusedSimpArgs false
section
set_option maxRecDepth 4000
def rising {α : Type} (c : α → Int) (z : α) (xs : List α) : Prop := ∀ a b, a ≤ b → b < xs.length → c (xs.getD b z) < 0 → c (xs.getD a z) < 0
def cutAt {α : Type} (c : α → Int) (z : α) (xs : List α) (i : Nat) : Prop := i ≤ xs.length ∧ (∀ a, a < i → c (xs.getD a z) < 0) ∧ ∀ a, i ≤ a → a < xs.length → ¬ c (xs.getD a z) < 0
theorem searchSet_c (xs : List GSet) (hl : xs.length ≤ 1048576) (s0 : GSet) (c : GSet → Int) (hm : rising c GSet.z xs) : Con Tryz.prog 243 [] [vL 5 cSet GSet.z xs, vR (cSet s0), fbO (fun x => [RD.ag (cSet x), RD.ag (cSet s0)]) fun x => .int .i64 (c x)] [] (cutAt c GSet.z xs)
    (fun i => [vI i, vB (bif decide ((i : Int) < xs.length) then c (xs.getD i GSet.z) == 0 else false)]) fun _ => [] := by
  refine con_enter Tryz.func243 rfl rfl rfl fun B0 r_ D_ w0 => ?_
  refine T_auto TT_ok rfl ?_
  refine T_loopA (ι := Nat × Nat) (fun y => [(9, vI y.1), (10, vI y.2)]) (fun _ => []) (fun y => y.1 ≤ y.2 ∧ y.2 ≤ xs.length ∧ (∀ a, a < y.1 → c (xs.getD a GSet.z) < 0) ∧ ∀ a, y.2 ≤ a → a < xs.length → ¬ c (xs.getD a GSet.z) < 0) (fun y => y.2 - y.1) (0, xs.length) [] [] rfl rfl ⟨Nat.zero_le _, Nat.le_refl _, fun a h => absurd h (Nat.not_lt_zero _), fun a h1 h2 => by omega⟩ (by repeat (first | exact trivial | refine And.intro ⟨_, rfl, SV.imp_refl _⟩ ?_)) (by repeat (first | exact trivial | refine And.intro ⟨_, rfl, Ch.imp_refl _⟩ ?_)) ?_
  rintro ⟨i, j⟩ ⟨h1, h2, h3, h4⟩
  dsimp only at h1 h2 h3 h4 ⊢
  refine T_auto TT_ok rfl ?_
  refine T_condD rfl (fun e => ?_) (fun e => ?_)
  · have hij : i < j := by omega
    have hh : (((i : Int) + j) / 2).toNat = (i + j) / 2 := by omega
    refine T_auto TT_ok rfl ?_
    refine T_drawA TT_ok [] rfl rfl fun B0 H0 => ?_
    refine DJ_one 6 rfl (by kernel_rfl) (OJ_F rfl rfl rfl ⟨xs.getD (((i : Int) + j) / 2).toNat GSet.z, rfl, rfl⟩ (SJ_dj ?_))
    refine DJ_on TT_ok rfl ?_
    refine DJ_endA TT_ok rfl ?_
    rw [hh]
    refine T_condD rfl (fun e2 => ?_) (fun e2 => ?_)
    · refine T_auto TT_ok rfl ?_
      refine X_inv ((i + j) / 2 + 1, j) ⟨by dsimp only; omega, h2, fun a ha => ?_, h4⟩ (by show j - ((i + j) / 2 + 1) < j - i; omega) ⟨⟨_, rfl, SV.imp_of (vI_eq (by dsimp only; omega))⟩, ⟨_, rfl, SV.imp_refl _⟩, (by repeat (first | exact trivial | refine And.intro ⟨_, rfl, SV.imp_refl _⟩ ?_))⟩ (by repeat (first | exact trivial | refine And.intro ⟨_, rfl, Ch.imp_refl _⟩ ?_))
      exact hm a ((i + j) / 2) (by dsimp only at ha; omega) (by omega) e2
    · refine T_auto TT_ok rfl ?_
      refine X_inv (i, (i + j) / 2) ⟨by dsimp only; omega, by dsimp only; omega, h3, fun a a1 a2 hc => ?_⟩ (by show (i + j) / 2 - i < j - i; omega) ⟨⟨_, rfl, SV.imp_refl _⟩, ⟨_, rfl, SV.imp_of (vI_eq (by dsimp only; omega))⟩, (by repeat (first | exact trivial | refine And.intro ⟨_, rfl, SV.imp_refl _⟩ ?_))⟩ (by repeat (first | exact trivial | refine And.intro ⟨_, rfl, Ch.imp_refl _⟩ ?_))
      exact e2 (hm ((i + j) / 2) a (by dsimp only at a1; omega) a2 hc)
  · have hij : i = j := by omega
    subst hij
    refine T_auto TT_ok rfl ?_
    refine T_drawA TT_ok [] rfl rfl fun B0 H0 => ?_
    refine DJ_one 11 rfl (by kernel_rfl) (OJ_FG rfl rfl rfl rfl rfl ⟨xs.getD i GSet.z, rfl, rfl⟩ (SJ_dj ?_))
    refine DJ_on TT_ok rfl ?_
    refine DJ_endA TT_ok rfl ?_
    refine T_ret TT_ok (i) [(6, none), (7, none)] rfl rfl ?_ ?_ ?_
    · exact SVs.imp_refl _
    · trivial
    · exact ⟨h2, h3, h4⟩
end
section
set_option maxRecDepth 4000
theorem cmpC_lt {r s q t : Int} : cmpC r s q t < 0 ↔ r < q ∨ r = q ∧ s < t := by
  rw [← lessB_iff, ← cmpC_less]; simp
theorem cmpC_zero {r s q t : Int} : cmpC r s q t = 0 ↔ r = q ∧ s = t := by
  unfold cmpC orL orL orL ordI
  by_cases h1 : r < q
  · simp [h1]; omega
  · by_cases h2 : r > q
    · simp [h1, h2]; omega
    · have h3 : r = q := by omega
      subst h3
      by_cases h4 : s < t
      · simp [h4]; omega
      · by_cases h5 : s > t
        · simp [h4, h5]; omega
        · simp [h4, h5]; omega
def sortedS (xs : List GSet) : Prop := ∀ a b, a < b → b < xs.length → lessS (xs.getD a GSet.z) (xs.getD b GSet.z)
theorem sortedS_of {xs : List GSet} (h : setsOk xs xs.length) : sortedS xs := fun a b hab hb => by
  induction b with
  | zero => omega
  | succ b ih =>
    have h1 := (h (b + 1) hb).2 (by omega)
    rw [Nat.add_sub_cancel] at h1
    by_cases c : a = b
    · subst c; exact h1
    · have h2 := ih (by omega) (by omega)
      unfold lessS at h1 h2 ⊢
      omega
theorem set1_q (a b : GSet) : Ans Tryz.prog 244 [] [vR (cSet a), vR (cSet b)] [] (vI (cmpC a.region a.slot b.region b.slot)) := by
  refine con_enter Tryz.func244 rfl rfl rfl fun B0 r_ D_ w0 => ?_
  refine T_auto TT_ok rfl ?_
  refine RJ_Q TT_ok (compareCells_q _ _ _ _) rfl rfl rfl rfl rfl ?_
  exact T_ansI TT_ok [(4, none)] rfl rfl (rfl)
def cellC (r s : Int) (x : GSet) : Int := cmpC x.region x.slot r s
theorem cellC_rising {xs : List GSet} (h : sortedS xs) (r s : Int) : rising (cellC r s) GSet.z xs := fun a b hab hb hc => by
  by_cases c : a = b
  · subst c; exact hc
  · have := h a b (by omega) hb
    unfold cellC at hc ⊢
    rw [cmpC_lt] at hc ⊢
    unfold lessS at this
    omega
theorem set_c (t : GTx) (hl : t.sets.length ≤ 1048576) (r0 s0 : Int) (hs : sortedS t.sets) : Con Tryz.prog 219 [] [vP (cTx t), vI r0, vI s0] [] (cutAt (cellC r0 s0) GSet.z t.sets)
    (fun i => [vI i, vB (bif decide ((i : Int) < t.sets.length) then cellC r0 s0 (t.sets.getD i GSet.z) == 0 else false)]) fun _ => [] := by
  refine con_enter Tryz.func219 rfl rfl rfl fun B0 r_ D_ w0 => ?_
  refine T_auto TT_ok rfl ?_
  refine RJ_C TT_ok (searchSet_c t.sets hl ⟨r0, s0, 0, false, 0⟩ (cellC r0 s0) (cellC_rising hs r0 s0)) rfl rfl (SVs.cons (SV.imp_refl _) (SVs.cons (SV.imp_refl _) (SVs.cons (imp_fb (enters_B (by kernel_rfl)) rfl fun args x ⟨s, h1, h2⟩ => by subst h1; subst h2; exact set1_q s ⟨r0, s0, 0, false, 0⟩) rfl))) (fun _ => rfl) rfl rfl rfl fun i hi => ?_
  refine RJ_auto TT_ok rfl ?_
  refine T_ret TT_ok (i) [(6, none), (7, none)] rfl rfl ?_ ?_ ?_
  · exact SVs.imp_refl _
  · trivial
  · exact hi
def atCell (r s : Int) (x : GSet) : Bool := bif x.region == r then x.slot == s else false
theorem atCell_iff {r s : Int} {x : GSet} : atCell r s x = true ↔ x.region = r ∧ x.slot = s := by
  unfold atCell
  by_cases h : x.region = r <;> simp [h]
theorem found_eq {xs : List GSet} (hs : sortedS xs) {r s : Int} {i : Nat} (h : cutAt (cellC r s) GSet.z xs i) : (bif decide ((i : Int) < xs.length) then cellC r s (xs.getD i GSet.z) == 0 else false) = xs.any (atCell r s) := by
  obtain ⟨h1, h2, h3⟩ := h
  rw [Bool.eq_iff_iff, List.any_eq_true]
  constructor
  · intro e
    have hi : i < xs.length := by
      by_cases c : i < xs.length
      · exact c
      · rw [decide_eq_false (by omega)] at e; cases e
    rw [decide_eq_true (by omega)] at e
    have e : cellC r s (xs.getD i GSet.z) = 0 := by simpa using e
    refine ⟨xs.getD i GSet.z, by simp [hi], atCell_iff.2 (cmpC_zero.1 e)⟩
  · rintro ⟨x, hx, hc⟩
    obtain ⟨a, ha, rfl⟩ := List.mem_iff_getElem.1 hx
    have hxa : xs.getD a GSet.z = xs[a] := by simp [ha]
    rw [← hxa] at hc
    have hc := atCell_iff.1 hc
    have hz : cellC r s (xs.getD a GSet.z) = 0 := cmpC_zero.2 hc
    have hia : i ≤ a := by
      rcases Nat.lt_or_ge a i with h | h
      · have := h2 a h; omega
      · exact h
    have hi : i < xs.length := by omega
    rw [decide_eq_true (by omega)]
    have : cellC r s (xs.getD i GSet.z) = 0 := by
      by_cases c : i = a
      · subst c; exact hz
      · exfalso
        have h4 := hs i a (by omega) ha
        have h5 := h3 i (Nat.le_refl _) hi
        unfold cellC at h5
        rw [cmpC_lt] at h5
        unfold lessS at h4
        omega
    show (cellC r s (xs.getD i GSet.z) == 0) = true
    rw [this]; rfl
theorem checks1_q (n : GNote) (t : GTx) (hl : t.sets.length ≤ 1048576) (hs : sortedS t.sets) : Ans Tryz.prog 218 [] [vR (cNote n), vP [.pt (cTx t) 0]] [] (vB (t.sets.any (atCell n.region n.slot))) := by
  refine con_enter Tryz.func218 rfl rfl rfl fun B0 r_ D_ w0 => ?_
  refine T_auto TT_ok rfl ?_
  refine RJ_C TT_ok (set_c t hl n.region n.slot hs) rfl rfl (SVs.imp_refl _) (fun _ => rfl) rfl rfl rfl fun i hi => ?_
  refine RJ_auto TT_ok rfl ?_
  exact T_ansB TT_ok [(3, none)] rfl rfl (found_eq hs hi)
theorem l7Set_q (t : GTx) (hl : t.sets.length ≤ 1048576) (r0 s0 : Int) : Ans Tryz.prog 129 [] [vR (cTx t), vI r0, vI s0] [] (vI (idxI (atCell r0 s0) t.sets)) := by
  refine con_enter Tryz.func129 rfl rfl rfl fun B0 r_ D_ w0 => ?_
  refine T_auto TT_ok rfl ?_
  refine T_loopA (ι := Nat) (fun i => [(7, vI i)]) (fun _ => []) (fun i => i ≤ t.sets.length ∧ ∀ j, j < i → atCell r0 s0 (t.sets.getD j GSet.z) = false) (fun i => t.sets.length - i) 0 [] [] rfl rfl ⟨Nat.zero_le _, fun j hj => absurd hj (Nat.not_lt_zero _)⟩ (by repeat (first | exact trivial | refine And.intro ⟨_, rfl, SV.imp_refl _⟩ ?_)) (by repeat (first | exact trivial | refine And.intro ⟨_, rfl, Ch.imp_refl _⟩ ?_)) ?_
  intro i ⟨h1, h2⟩
  refine T_auto TT_ok rfl ?_
  refine T_condD rfl (fun e => ?_) (fun e => ?_)
  · have hi : i < t.sets.length := by omega
    refine T_auto TT_ok rfl ?_
    refine T_cond rfl (fun e2 => ?_) (fun e2 => ?_)
    · refine T_auto TT_ok rfl ?_
      exact T_ansI TT_ok [(6, none)] rfl rfl ((idxI_at hi h2 e2).symm)
    · refine T_auto TT_ok rfl ?_
      exact X_inv (i + 1) ⟨hi, before_succ h2 e2⟩ (by omega) (by repeat (first | exact trivial | refine And.intro ⟨_, rfl, SV.imp_refl _⟩ ?_)) (by repeat (first | exact trivial | refine And.intro ⟨_, rfl, Ch.imp_refl _⟩ ?_))
  · refine T_auto TT_ok rfl ?_
    exact T_ansI TT_ok [(6, none)] rfl rfl ((idxI_no fun j hj => h2 j (by omega)).symm)
def noSet (t : GTx) (n : GNote) : Bool := decide (idxI (atCell n.region n.slot) t.sets < 0)
theorem noSet_eq (t : GTx) (n : GNote) : noSet t n = !t.sets.any (atCell n.region n.slot) := by
  unfold noSet
  rcases idxI_cases (atCell n.region n.slot) GSet.z t.sets with ⟨h1, h2⟩ | ⟨i, h1, h2, h3, h4⟩
  · rw [h1]
    cases c : t.sets.any (atCell n.region n.slot) with
    | false => rfl
    | true =>
      obtain ⟨x, hx, hc⟩ := List.any_eq_true.1 c
      obtain ⟨a, ha, rfl⟩ := List.mem_iff_getElem.1 hx
      have := h2 a ha
      have hxa : t.sets.getD a GSet.z = t.sets[a] := by simp [ha]
      rw [hxa, hc] at this; cases this
  · rw [h2, decide_eq_false (by omega)]
    have : t.sets.any (atCell n.region n.slot) = true := List.any_eq_true.2 ⟨_, by simp [h1], h4⟩
    rw [this]; rfl
theorem l7Checks_m (t : GTx) (h1 : t.reads.length ≤ 1048576) (h2 : t.sets.length ≤ 1048576) : MkL Tryz.prog 59 [vR (cTx t)] 5 cNote GNote.z (t.reads.filter (noSet t)) := by
  refine con_enter Tryz.func59 rfl rfl rfl fun B0 r_ D_ w0 => ?_
  refine T_auto TT_ok rfl ?_
  refine RJ_bs TT_ok 5 (fun i => cNote (([] : List GNote).getD i GNote.z)) rfl rfl rfl rfl rfl rfl rfl (fun i hi => absurd hi (Nat.not_lt_zero _)) (mu1 := []) rfl rfl rfl ?_
  refine RJ_auto TT_ok rfl ?_
  refine T_loopA (ι := Nat) (fun i => [(4, vI i), (3, .a (.g 5))]) (fun i => [(5, arrC 5 cNote GNote.z ((t.reads.take i).filter (noSet t)))]) (fun i => i ≤ t.reads.length) (fun i => t.reads.length - i) 0 [5] [5] rfl rfl (Nat.zero_le _) (by repeat (first | exact trivial | refine And.intro ⟨_, rfl, SV.imp_refl _⟩ ?_)) (by repeat (first | exact trivial | refine And.intro ⟨_, rfl, Ch.imp_refl _⟩ ?_)) ?_
  intro i h3
  refine T_auto TT_ok rfl ?_
  refine T_condD rfl (fun e => ?_) (fun e => ?_)
  · have hi : i < t.reads.length := by omega
    have hle := filter_take_len t.reads (noSet t) i
    refine T_auto TT_ok rfl ?_
    refine T_drawA TT_ok [] rfl rfl fun B0 H0 => ?_
    refine DJ_Q TT_ok (l7Set_q t h2 _ _) rfl rfl rfl rfl rfl rfl ?_
    refine DJ_endA TT_ok rfl ?_
    refine T_condD rfl (fun e2 => ?_) (fun e2 => ?_)
    · have e3 : noSet t (t.reads.getD i GNote.z) = true := decide_eq_true e2
      refine T_auto TT_ok rfl ?_
      refine RJ_bs TT_ok 34 (fun _ => cNote (t.reads.getD i GNote.z)) rfl rfl rfl rfl rfl rfl rfl (fun i hi => by rcases i with _ | i <;> first | rfl | omega) (mu1 := []) rfl rfl rfl ?_
      refine RJ_auto TT_ok rfl ?_
      refine RJ_appM TT_ok 5 34 35 rfl rfl rfl rfl rfl rfl rfl rfl rfl rfl rfl rfl ⟨by simp; omega, by unfold maxL; omega⟩ ?_
      refine RJ_auto TT_ok rfl ?_
      refine X_view (V_sw 5 35) ?_
      exact X_inv (i + 1) hi (by omega) (by repeat (first | exact trivial | refine And.intro ⟨_, rfl, SV.imp_refl _⟩ ?_)) ⟨⟨_, rfl, imp_app1 (filter_take_yes hi e3) rfl⟩, (by repeat (first | exact trivial | refine And.intro ⟨_, rfl, Ch.imp_refl _⟩ ?_))⟩
    · have e3 : noSet t (t.reads.getD i GNote.z) = false := decide_eq_false e2
      refine T_auto TT_ok rfl ?_
      exact X_inv (i + 1) hi (by omega) (by repeat (first | exact trivial | refine And.intro ⟨_, rfl, SV.imp_refl _⟩ ?_)) ⟨⟨_, rfl, imp_list (filter_take_no hi e3)⟩, (by repeat (first | exact trivial | refine And.intro ⟨_, rfl, Ch.imp_refl _⟩ ?_))⟩
  · have hi : i = t.reads.length := by omega
    subst hi
    refine T_auto TT_ok rfl ?_
    refine T_view (V_sw 5 900) ?_
    refine T_ret TT_ok (()) [(2, none)] rfl rfl ?_ ?_ ?_
    · exact SVs.imp_refl _
    · exact ⟨⟨_, rfl, imp_list (by rw [List.take_length])⟩, trivial⟩
    · trivial
theorem checks_m (t : GTx) (h1 : t.reads.length ≤ 1048576) (h2 : t.sets.length ≤ 1048576) (hs : sortedS t.sets) : MkL Tryz.prog 156 [vP (cTx t)] 5 cNote GNote.z (t.reads.filter (noSet t)) := by
  refine con_enter Tryz.func156 rfl rfl rfl fun B0 r_ D_ w0 => ?_
  refine T_auto TT_ok rfl ?_
  refine RJ_C TT_ok (Con.sw 900 7 (cloneNote_m t.reads h1)) rfl rfl (SVs.imp_refl _) (fun _ => rfl) rfl rfl rfl fun _ _ => ?_
  refine RJ_auto TT_ok rfl ?_
  refine RJ_C TT_ok (Con.sw 900 7 (Con.sw 901 9 (deleteFuncNote_c t.reads h1 fun n => t.sets.any (atCell n.region n.slot)))) rfl rfl (SVs.cons (SV.imp_refl _) (SVs.cons (imp_fb (enters_B (by kernel_rfl)) rfl fun args x ⟨n, e1, e2⟩ => by subst e1; subst e2; exact checks1_q n t h2 hs) rfl)) (fun _ => rfl) rfl rfl rfl fun _ _ => ?_
  refine RJ_auto TT_ok rfl ?_
  refine T_view (V_sw 9 900) ?_
  refine T_ret TT_ok (()) [(2, none)] rfl rfl ?_ ?_ ?_
  · exact SVs.imp_refl _
  · exact ⟨⟨_, rfl, imp_list (by congr 1; funext n; exact (noSet_eq t n).symm)⟩, trivial⟩
  · trivial
end
end Go.Proofs.YtcikaknfogpeeaaGreat
namespace Go.Proofs.YtcikaknfogpeeaaGreat
open Go Go.RowKit
set_option linter.unusedVariables false
set_option linter.unusedSimpArgs false
set_option maxRecDepth 4000
theorem bd_at {α : Type} {N sz : Nat} {enc : α → List D} {z : α} {xs : List α} (h : D.bd N (dL sz enc z xs)) (hz : D.bds N (enc z)) (i : Nat) : D.bds N (enc (xs.getD i z)) := by
  by_cases c : i < xs.length
  · exact h.2 i c
  · rw [List.getD_eq_getElem?_getD, List.getElem?_eq_none (by omega)]; exact hz
def atB (r : Int) (x : GCopy) : Bool := x.region == r
def hasB (m : GMachine) (r : Int) : Bool := m.copies.any (atB r)
theorem idx_lt {α : Type} (p : α → Bool) (z : α) (xs : List α) : decide (idxI p xs < 0) = !xs.any p := by
  rcases idxI_cases p z xs with ⟨h1, h2⟩ | ⟨i, h1, h2, h3, h4⟩
  · rw [any_no h2, h1]; rfl
  · rw [any_at h1 h4, h2]; simp
theorem l6At_q (m : GMachine) (hl : m.copies.length ≤ 1048576) (r0 : Int) : Ans Tryz.prog 45 [] [vR (cMachine m), vI r0] [] (vI (idxI (atB r0) m.copies)) := by
  refine con_enter Tryz.func45 rfl rfl rfl fun B0 r_ D_ w0 => ?_
  refine T_auto TT_ok rfl ?_
  refine T_loopA (ι := Nat) (fun i => [(5, vI i)]) (fun _ => []) (fun i => i ≤ m.copies.length ∧ ∀ j, j < i → atB r0 (m.copies.getD j GCopy.z) = false) (fun i => m.copies.length - i) 0 [] [] rfl rfl ⟨Nat.zero_le _, fun j hj => absurd hj (Nat.not_lt_zero _)⟩ (by repeat (first | exact trivial | refine And.intro ⟨_, rfl, SV.imp_refl _⟩ ?_)) (by repeat (first | exact trivial | refine And.intro ⟨_, rfl, Ch.imp_refl _⟩ ?_)) ?_
  intro i ⟨h1, h2⟩
  refine T_auto TT_ok rfl ?_
  refine T_condD rfl (fun e => ?_) (fun e => ?_)
  · have hi : i < m.copies.length := by omega
    refine T_auto TT_ok rfl ?_
    refine T_cond rfl (fun e2 => ?_) (fun e2 => ?_)
    · refine T_auto TT_ok rfl ?_
      exact T_ansI TT_ok [(4, none)] rfl rfl ((idxI_at (p := atB r0) hi h2 e2).symm)
    · refine T_auto TT_ok rfl ?_
      exact X_inv (i + 1) ⟨hi, before_succ h2 e2⟩ (by omega) (by repeat (first | exact trivial | refine And.intro ⟨_, rfl, SV.imp_refl _⟩ ?_)) (by repeat (first | exact trivial | refine And.intro ⟨_, rfl, Ch.imp_refl _⟩ ?_))
  · refine T_auto TT_ok rfl ?_
    exact T_ansI TT_ok [(4, none)] rfl rfl ((idxI_no fun j hj => h2 j (by omega)).symm)
theorem cells_none_q (m : GMachine) (hl : m.copies.length ≤ 1048576) (r0 : Int) (hn : hasB m r0 = false) : Ans Tryz.prog 77 [] [vP (cMachine m), vI r0] [] (.a (.v (.slice none 0 0))) := by
  refine con_enter Tryz.func77 rfl rfl rfl fun B0 r_ D_ w0 => ?_
  refine T_auto TT_ok rfl ?_
  refine T_loopA (ι := Nat) (fun i => [(12, vI i)]) (fun _ => []) (fun i => i ≤ m.copies.length) (fun i => m.copies.length - i) 0 [] [] rfl rfl (Nat.zero_le _) (by repeat (first | exact trivial | refine And.intro ⟨_, rfl, SV.imp_refl _⟩ ?_)) (by repeat (first | exact trivial | refine And.intro ⟨_, rfl, Ch.imp_refl _⟩ ?_)) ?_
  intro i h1
  refine T_auto TT_ok rfl ?_
  refine T_condD rfl (fun e => ?_) (fun e => ?_)
  · have hi : i < m.copies.length := by omega
    refine T_auto TT_ok rfl ?_
    refine T_cond rfl (fun e2 => ?_) (fun e2 => ?_)
    · have := (any_get (z := GCopy.z) hn i hi).symm.trans e2
      cases this
    · refine T_auto TT_ok rfl ?_
      exact X_inv (i + 1) hi (by omega) (by repeat (first | exact trivial | refine And.intro ⟨_, rfl, SV.imp_refl _⟩ ?_)) (by repeat (first | exact trivial | refine And.intro ⟨_, rfl, Ch.imp_refl _⟩ ?_))
  · refine T_auto TT_ok rfl ?_
    exact T_ans TT_ok [(4, none)] rfl rfl (rfl)
theorem cells_some_q (m : GMachine) (hl : m.copies.length ≤ 1048576) (r0 : Int) (i0 : Nat) (hi0 : i0 < m.copies.length) (hb : ∀ j, j < i0 → atB r0 (m.copies.getD j GCopy.z) = false) (ha : atB r0 (m.copies.getD i0 GCopy.z) = true) : Ans Tryz.prog 77 [] [vP (cMachine m), vI r0] [] (vL 2 cCell GCell.z (m.copies.getD i0 GCopy.z).cells) := by
  refine con_enter Tryz.func77 rfl rfl rfl fun B0 r_ D_ w0 => ?_
  refine T_auto TT_ok rfl ?_
  refine T_loopA (ι := Nat) (fun i => [(12, vI i)]) (fun _ => []) (fun i => i ≤ i0) (fun i => i0 - i) 0 [] [] rfl rfl (Nat.zero_le _) (by repeat (first | exact trivial | refine And.intro ⟨_, rfl, SV.imp_refl _⟩ ?_)) (by repeat (first | exact trivial | refine And.intro ⟨_, rfl, Ch.imp_refl _⟩ ?_)) ?_
  intro i h1
  have hi : i < m.copies.length := by omega
  refine T_auto TT_ok rfl ?_
  refine T_condD rfl (fun e => ?_) (fun e => absurd (by omega : (i : Int) < m.copies.length) e)
  refine T_auto TT_ok rfl ?_
  refine T_cond rfl (fun e2 => ?_) (fun e2 => ?_)
  · have hii : i = i0 := by
      rcases Nat.lt_or_ge i i0 with h | h
      · have := (hb i h).symm.trans e2; cases this
      · omega
    subst hii
    refine T_auto TT_ok rfl ?_
    exact T_ans TT_ok [(4, none)] rfl rfl (rfl)
  · have hlt : i < i0 := by
      rcases Nat.lt_or_ge i i0 with h | h
      · exact h
      · have : i = i0 := by omega
        subst this
        have := ha.symm.trans e2; cases this
    refine T_auto TT_ok rfl ?_
    exact X_inv (i + 1) hlt (by omega) (by repeat (first | exact trivial | refine And.intro ⟨_, rfl, SV.imp_refl _⟩ ?_)) (by repeat (first | exact trivial | refine And.intro ⟨_, rfl, Ch.imp_refl _⟩ ?_))
theorem hasB_get {m : GMachine} {r0 : Int} (h : hasB m r0 = true) : ∃ i, i < m.copies.length ∧ (∀ j, j < i → atB r0 (m.copies.getD j GCopy.z) = false) ∧ atB r0 (m.copies.getD i GCopy.z) = true := by
  rcases idxI_cases (atB r0) GCopy.z m.copies with ⟨h1, h2⟩ | ⟨i, h1, h2, h3, h4⟩
  · rw [hasB, any_no h2] at h; cases h
  · exact ⟨i, h1, h3, h4⟩
abbrev mAt (c : GCluster) (r k : Nat) : Int := (c.places.getD r GPlace.z).machines.getD k 0
def badAt (c : GCluster) (r k : Nat) : Bool := bif decide (mAt c r k ≥ (c.machines.length : Int)) then true else bif (c.machines.getD (mAt c r k).toNat GMachine.z).alive then !hasB (c.machines.getD (mAt c r k).toNat GMachine.z) r else false
noncomputable def badTx (c : GCluster) (i : Nat) : Bool := bif (bif (bif !dec (TxOk (c.txs.getD i GTx.z)) then true else bif decide ((i : Int) > 0) then decide ((c.txs.getD i GTx.z).id ≤ (c.txs.getD ((i : Int) - 1).toNat GTx.z).id) else false) then true else decide ((c.txs.getD i GTx.z).home ≥ (c.machines.length : Int))) then true else decide ((c.txs.getD i GTx.z).stamp > c.clock)
def ClusOk (c : GCluster) : Prop := ((1 ≤ c.config ∧ c.config ≤ 1000000) ∧ (0 ≤ c.clock ∧ c.clock ≤ 1000000) ∧ (1 ≤ c.machines.length ∧ c.machines.length ≤ 8) ∧ c.txs.length ≤ 60) ∧ PlOk c.places ∧ (∀ i, i < c.machines.length → MachOk (c.machines.getD i GMachine.z)) ∧
  (∀ r, r < c.places.length → ∀ k, k < (c.places.getD r GPlace.z).machines.length → badAt c r k = false) ∧ ∀ i, i < c.txs.length → badTx c i = false ∧ (∀ k, k < (c.txs.getD i GTx.z).reads.length → ((c.txs.getD i GTx.z).reads.getD k GNote.z).region < c.places.length) ∧ ∀ k, k < (c.txs.getD i GTx.z).sets.length → ((c.txs.getD i GTx.z).sets.getD k GSet.z).region < c.places.length
theorem pl_nonneg {p : GPlace} (h : plOk p) {k : Nat} (hk : k < p.machines.length) : 0 ≤ p.machines.getD k 0 ∧ p.machines.getD k 0 ≤ 7 := by
  have h1 := h.2 k hk
  unfold badPl at h1
  cases c : inB (p.machines.getD k 0) 0 7 with
  | false => rw [c] at h1; cases h1
  | true => exact inB_iff.1 c
theorem spec_ClusterOk_q (c : GCluster) (hb : D.bds bigN (cCluster c)) : Ans Tryz.prog 41 [] [vR (cCluster c)] [] (vB (dec (ClusOk c))) := by
  have b1 : c.places.length ≤ 1048576 := hb.2.2.1.1
  have b2 : c.machines.length ≤ 1048576 := hb.2.2.2.1.1
  have b3 : c.txs.length ≤ 1048576 := hb.2.2.2.2.1.1
  refine con_enter Tryz.func41 rfl rfl rfl fun B0 r_ D_ w0 => ?_
  refine T_auto TT_ok rfl ?_
  refine RJ_Q TT_ok (spec_l1Id_q _) rfl rfl rfl rfl rfl ?_
  refine RJ_Q TT_ok (spec_l1In_q _ _ _) rfl rfl rfl rfl rfl ?_
  refine RJ_Q TT_ok (spec_PlacesOk_q _) rfl rfl rfl rfl rfl ?_
  refine T_cond rfl (fun e => ?_) (fun e => ?_)
  · refine T_auto TT_ok rfl ?_
    exact T_ansB TT_ok [(2, none)] rfl rfl ((dec_false fun h => by have h1 := h.1; simp [dec_true h.2.1, inB_iff.2 h1.1, inB_iff.2 h1.2.1] at e; omega).symm)
  have hH : ((1 ≤ c.config ∧ c.config ≤ 1000000) ∧ (0 ≤ c.clock ∧ c.clock ≤ 1000000) ∧ (1 ≤ c.machines.length ∧ c.machines.length ≤ 8) ∧ c.txs.length ≤ 60) ∧ PlOk c.places := by
    simp only [Bool.cond_true_left, Bool.or_eq_false_iff, Bool.not_eq_false', inB_iff, decide_eq_false_iff_not, dec_iff] at e
    exact ⟨by omega, e.1.2⟩
  clear e
  refine T_auto TT_ok rfl ?_
  refine T_loopA (ι := Nat) (fun i => [(4, vI i)]) (fun _ => []) (fun i => i ≤ c.machines.length ∧ ∀ j, j < i → MachOk (c.machines.getD j GMachine.z)) (fun i => c.machines.length - i) 0 [] [] rfl rfl ⟨Nat.zero_le _, fun j hj => absurd hj (Nat.not_lt_zero _)⟩ (by repeat (first | exact trivial | refine And.intro ⟨_, rfl, SV.imp_refl _⟩ ?_)) (by repeat (first | exact trivial | refine And.intro ⟨_, rfl, Ch.imp_refl _⟩ ?_)) ?_
  intro i ⟨h1, h2⟩
  refine T_auto TT_ok rfl ?_
  refine T_condD rfl (fun e => ?_) (fun e => ?_)
  · have hi : i < c.machines.length := by omega
    refine T_auto TT_ok rfl ?_
    refine RJ_Q TT_ok (spec_MachineOk_q _ (hb.2.2.2.1.2 i hi)) rfl rfl rfl rfl rfl ?_
    refine T_condX rfl (fun e1 => ?_) (fun e1 => ?_)
    · refine T_auto TT_ok rfl ?_
      exact T_ansB TT_ok [(2, none)] rfl rfl ((dec_false fun h => dec_not.1 e1 (h.2.2.1 i hi)).symm)
    · refine T_auto TT_ok rfl ?_
      exact X_inv (i + 1) ⟨hi, before_succ h2 (dec_iff.1 e1)⟩ (by omega) (by repeat (first | exact trivial | refine And.intro ⟨_, rfl, SV.imp_refl _⟩ ?_)) (by repeat (first | exact trivial | refine And.intro ⟨_, rfl, Ch.imp_refl _⟩ ?_))
  have hi : i = c.machines.length := by omega
  subst hi
  clear e h1
  refine T_auto TT_ok rfl ?_
  refine T_loopA (ι := Nat) (fun i => [(5, vI i)]) (fun _ => []) (fun i => i ≤ c.places.length ∧ ∀ r, r < i → ∀ k, k < (c.places.getD r GPlace.z).machines.length → badAt c r k = false) (fun i => c.places.length - i) 0 [] [] rfl rfl ⟨Nat.zero_le _, fun j hj => absurd hj (Nat.not_lt_zero _)⟩ (by repeat (first | exact trivial | refine And.intro ⟨_, rfl, SV.imp_refl _⟩ ?_)) (by repeat (first | exact trivial | refine And.intro ⟨_, rfl, Ch.imp_refl _⟩ ?_)) ?_
  intro i ⟨h1, h3⟩
  refine T_auto TT_ok rfl ?_
  refine T_condD rfl (fun e => ?_) (fun e => ?_)
  · have hi : i < c.places.length := by omega
    have hp := hH.2.2 i hi
    have hpl := hp.1
    refine T_auto TT_ok rfl ?_
    refine T_loopA (ι := Nat) (fun k => [(7, vI k)]) (fun _ => []) (fun k => k ≤ (c.places.getD i GPlace.z).machines.length ∧ ∀ j, j < k → badAt c i j = false) (fun k => (c.places.getD i GPlace.z).machines.length - k) 0 [] [] rfl rfl ⟨Nat.zero_le _, fun j hj => absurd hj (Nat.not_lt_zero _)⟩ (by repeat (first | exact trivial | refine And.intro ⟨_, rfl, SV.imp_refl _⟩ ?_)) (by repeat (first | exact trivial | refine And.intro ⟨_, rfl, Ch.imp_refl _⟩ ?_)) ?_
    intro k ⟨g1, g2⟩
    refine T_auto TT_ok rfl ?_
    refine T_condD rfl (fun e1 => ?_) (fun e1 => ?_)
    · have hk : k < (c.places.getD i GPlace.z).machines.length := by simp at e1 ⊢; omega
      have hn := pl_nonneg hp hk
      refine T_auto TT_ok rfl ?_
      refine T_drawA TT_ok [] rfl rfl fun B0 H0 => ?_
      refine DJ_Q TT_ok (l6At_q _ (bd_at hb.2.2.2.1 ⟨trivial, ⟨Nat.zero_le _, fun i hi => absurd hi (Nat.not_lt_zero _)⟩, ⟨Nat.zero_le _, fun i hi => absurd hi (Nat.not_lt_zero _)⟩, ⟨Nat.zero_le _, fun i hi => absurd hi (Nat.not_lt_zero _)⟩, trivial⟩ _).2.1.1 _) rfl rfl rfl rfl rfl rfl ?_
      refine DJ_endA TT_ok rfl ?_
      rw [idx_lt _ GCopy.z]
      refine T_cond rfl (fun e2 => ?_) (fun e2 => ?_)
      · refine T_auto TT_ok rfl ?_
        exact T_ansB TT_ok [(2, none)] rfl rfl ((dec_false fun h => by have := (h.2.2.2.1 i hi k hk).symm.trans e2; cases this).symm)
      · refine T_auto TT_ok rfl ?_
        exact X_inv (k + 1) ⟨hk, before_succ g2 e2⟩ (by omega) (by repeat (first | exact trivial | refine And.intro ⟨_, rfl, SV.imp_refl _⟩ ?_)) (by repeat (first | exact trivial | refine And.intro ⟨_, rfl, Ch.imp_refl _⟩ ?_))
    · refine T_auto TT_ok rfl ?_
      exact X_inv (i + 1) ⟨hi, before_succ h3 fun k hk => g2 k (by simp at e1 hk; omega)⟩ (by omega) (by repeat (first | exact trivial | refine And.intro ⟨_, rfl, SV.imp_refl _⟩ ?_)) (by repeat (first | exact trivial | refine And.intro ⟨_, rfl, Ch.imp_refl _⟩ ?_))
  have hi : i = c.places.length := by omega
  subst hi
  clear e h1
  refine T_auto TT_ok rfl ?_
  refine T_loopA (ι := Nat) (fun i => [(8, vI i)]) (fun _ => []) (fun i => i ≤ c.txs.length ∧ ∀ j, j < i → badTx c j = false ∧ (∀ k, k < (c.txs.getD j GTx.z).reads.length → ((c.txs.getD j GTx.z).reads.getD k GNote.z).region < c.places.length) ∧ ∀ k, k < (c.txs.getD j GTx.z).sets.length → ((c.txs.getD j GTx.z).sets.getD k GSet.z).region < c.places.length) (fun i => c.txs.length - i) 0 [] [] rfl rfl ⟨Nat.zero_le _, fun j hj => absurd hj (Nat.not_lt_zero _)⟩ (by repeat (first | exact trivial | refine And.intro ⟨_, rfl, SV.imp_refl _⟩ ?_)) (by repeat (first | exact trivial | refine And.intro ⟨_, rfl, Ch.imp_refl _⟩ ?_)) ?_
  intro i ⟨h1, h4⟩
  refine T_auto TT_ok rfl ?_
  refine T_condD rfl (fun e => ?_) (fun e => ?_)
  · have hi : i < c.txs.length := by omega
    have r1 : (c.txs.getD i GTx.z).reads.length ≤ 1048576 := (hb.2.2.2.2.1.2 i hi).2.2.2.2.1.1
    have r2 : (c.txs.getD i GTx.z).sets.length ≤ 1048576 := (hb.2.2.2.2.1.2 i hi).2.2.2.2.2.1.1
    refine T_auto TT_ok rfl ?_
    refine T_drawA TT_ok [] rfl rfl fun B0 H0 => ?_
    refine DJ_Q TT_ok (spec_TxOk_q _) rfl rfl rfl rfl rfl rfl ?_
    refine DJ_endA TT_ok rfl ?_
    refine T_cond rfl (fun e1 => ?_) (fun e1 => ?_)
    · refine T_auto TT_ok rfl ?_
      exact T_ansB TT_ok [(2, none)] rfl rfl ((dec_false fun h => by have := (h.2.2.2.2 i hi).1.symm.trans e1; cases this).symm)
    refine T_auto TT_ok rfl ?_
    refine T_loopA (ι := Nat) (fun k => [(10, vI k)]) (fun _ => []) (fun k => k ≤ (c.txs.getD i GTx.z).reads.length ∧ ∀ j, j < k → ((c.txs.getD i GTx.z).reads.getD j GNote.z).region < c.places.length) (fun k => (c.txs.getD i GTx.z).reads.length - k) 0 [] [] rfl rfl ⟨Nat.zero_le _, fun j hj => absurd hj (Nat.not_lt_zero _)⟩ (by repeat (first | exact trivial | refine And.intro ⟨_, rfl, SV.imp_refl _⟩ ?_)) (by repeat (first | exact trivial | refine And.intro ⟨_, rfl, Ch.imp_refl _⟩ ?_)) ?_
    intro k ⟨g1, g2⟩
    refine T_auto TT_ok rfl ?_
    refine T_condD rfl (fun e2 => ?_) (fun e2 => ?_)
    · have hk : k < (c.txs.getD i GTx.z).reads.length := by simp at e2 ⊢; omega
      refine T_auto TT_ok rfl ?_
      refine T_drawA TT_ok [] rfl rfl fun B0 H0 => ?_
      refine DJ_endA TT_ok rfl ?_
      refine T_condD rfl (fun e3 => ?_) (fun e3 => ?_)
      · refine T_auto TT_ok rfl ?_
        exact T_ansB TT_ok [(2, none)] rfl rfl ((dec_false fun h => by have := (h.2.2.2.2 i hi).2.1 k hk; simp at e3 this; omega).symm)
      · refine T_auto TT_ok rfl ?_
        exact X_inv (k + 1) ⟨hk, before_succ g2 (by simp at e3 ⊢; omega)⟩ (by omega) (by repeat (first | exact trivial | refine And.intro ⟨_, rfl, SV.imp_refl _⟩ ?_)) (by repeat (first | exact trivial | refine And.intro ⟨_, rfl, Ch.imp_refl _⟩ ?_))
    have hg : ∀ j, j < (c.txs.getD i GTx.z).reads.length → ((c.txs.getD i GTx.z).reads.getD j GNote.z).region < c.places.length := fun j hj => g2 j (by simp at e2 hj; omega)
    clear g1 g2 e2
    refine T_auto TT_ok rfl ?_
    refine T_loopA (ι := Nat) (fun k => [(11, vI k)]) (fun _ => []) (fun k => k ≤ (c.txs.getD i GTx.z).sets.length ∧ ∀ j, j < k → ((c.txs.getD i GTx.z).sets.getD j GSet.z).region < c.places.length) (fun k => (c.txs.getD i GTx.z).sets.length - k) 0 [] [] rfl rfl ⟨Nat.zero_le _, fun j hj => absurd hj (Nat.not_lt_zero _)⟩ (by repeat (first | exact trivial | refine And.intro ⟨_, rfl, SV.imp_refl _⟩ ?_)) (by repeat (first | exact trivial | refine And.intro ⟨_, rfl, Ch.imp_refl _⟩ ?_)) ?_
    intro k ⟨g1, g2⟩
    refine T_auto TT_ok rfl ?_
    refine T_condD rfl (fun e2 => ?_) (fun e2 => ?_)
    · have hk : k < (c.txs.getD i GTx.z).sets.length := by simp at e2 ⊢; omega
      refine T_auto TT_ok rfl ?_
      refine T_drawA TT_ok [] rfl rfl fun B0 H0 => ?_
      refine DJ_endA TT_ok rfl ?_
      refine T_condD rfl (fun e3 => ?_) (fun e3 => ?_)
      · refine T_auto TT_ok rfl ?_
        exact T_ansB TT_ok [(2, none)] rfl rfl ((dec_false fun h => by have := (h.2.2.2.2 i hi).2.2 k hk; simp at e3 this; omega).symm)
      · refine T_auto TT_ok rfl ?_
        exact X_inv (k + 1) ⟨hk, before_succ g2 (by simp at e3 ⊢; omega)⟩ (by omega) (by repeat (first | exact trivial | refine And.intro ⟨_, rfl, SV.imp_refl _⟩ ?_)) (by repeat (first | exact trivial | refine And.intro ⟨_, rfl, Ch.imp_refl _⟩ ?_))
    · refine T_auto TT_ok rfl ?_
      exact X_inv (i + 1) ⟨hi, before_succ h4 ⟨e1, hg, fun j hj => g2 j (by simp at e2 hj; omega)⟩⟩ (by omega) (by repeat (first | exact trivial | refine And.intro ⟨_, rfl, SV.imp_refl _⟩ ?_)) (by repeat (first | exact trivial | refine And.intro ⟨_, rfl, Ch.imp_refl _⟩ ?_))
  · refine T_auto TT_ok rfl ?_
    exact T_ansB TT_ok [(2, none)] rfl rfl ((dec_true ⟨hH.1, hH.2, h2, h3, fun j hj => h4 j (by omega)⟩).symm)
theorem isCluster1_q (m : GMachine) (hb : D.bds bigN (cMachine m)) : Ans Tryz.prog 75 [] [vR (cMachine m)] [] (vB (!dec (MachOk m))) := by
  refine con_enter Tryz.func75 rfl rfl rfl fun B0 r_ D_ w0 => ?_
  refine T_auto TT_ok rfl ?_
  refine RJ_Q TT_ok (impl_isMachineOk_q _ hb) rfl rfl rfl rfl rfl ?_
  exact T_ansB TT_ok [(2, none)] rfl rfl (rfl)
theorem isCluster2_q (n : GNote) (x : Int) : Ans Tryz.prog 81 [] [vR (cNote n), vP [dI x]] [] (vB (decide (n.region ≥ x))) := by
  refine con_enter Tryz.func81 rfl rfl rfl fun B0 r_ D_ w0 => ?_
  refine T_auto TT_ok rfl ?_
  exact T_ansB TT_ok [(3, none)] rfl rfl (rfl)
theorem isCluster3_q (n : GSet) (x : Int) : Ans Tryz.prog 83 [] [vR (cSet n), vP [dI x]] [] (vB (decide (n.region ≥ x))) := by
  refine con_enter Tryz.func83 rfl rfl rfl fun B0 r_ D_ w0 => ?_
  refine T_auto TT_ok rfl ?_
  exact T_ansB TT_ok [(3, none)] rfl rfl (rfl)
theorem bdM_any {c : GCluster} (hb : D.bds bigN (cCluster c)) (i : Nat) : D.bds bigN (cMachine (c.machines.getD i GMachine.z)) := bd_at hb.2.2.2.1 ⟨trivial, ⟨Nat.zero_le _, fun i hi => absurd hi (Nat.not_lt_zero _)⟩, ⟨Nat.zero_le _, fun i hi => absurd hi (Nat.not_lt_zero _)⟩, ⟨Nat.zero_le _, fun i hi => absurd hi (Nat.not_lt_zero _)⟩, trivial⟩ _
theorem hasB_lt {c : GCluster} {i : Nat} {r0 : Int} (h : hasB (c.machines.getD i GMachine.z) r0 = true) : i < c.machines.length := by
  rcases Nat.lt_or_ge i c.machines.length with h1 | h1
  · exact h1
  · rw [List.getD_eq_getElem?_getD, List.getElem?_eq_none h1] at h; cases h
theorem cells6 {m : GMachine} (h : MachOk m) {i : Nat} (hi : i < m.copies.length) : cellsB (m.copies.getD i GCopy.z).cells = true := by
  have h1 := h.2.2.1 i hi
  unfold badCopy at h1
  cases c : cellsB (m.copies.getD i GCopy.z).cells with
  | true => rfl
  | false => rw [c] at h1; cases c2 : inB (m.copies.getD i GCopy.z).region 0 5 <;> rw [c2] at h1 <;> cases h1
theorem cellsB_len {xs : List GCell} (h : cellsB xs = true) : xs.length = 6 := by
  unfold cellsB at h
  cases c : ((xs.length : Int) == 6) with
  | false => rw [c] at h; cases h
  | true => have := beq_iff_eq.1 c; omega
theorem tx_impl (c : GCluster) (i : Nat) : (bif (bif badTx c i then true else (c.txs.getD i GTx.z).reads.any fun n => decide (n.region ≥ (c.places.length : Int))) then true else (c.txs.getD i GTx.z).sets.any fun n => decide (n.region ≥ (c.places.length : Int))) = false ↔
    badTx c i = false ∧ (∀ k, k < (c.txs.getD i GTx.z).reads.length → ((c.txs.getD i GTx.z).reads.getD k GNote.z).region < c.places.length) ∧ ∀ k, k < (c.txs.getD i GTx.z).sets.length → ((c.txs.getD i GTx.z).sets.getD k GSet.z).region < c.places.length := by
  constructor
  · intro h
    cases c1 : badTx c i with
    | true => rw [c1] at h; cases h
    | false =>
      rw [c1] at h
      cases c2 : (c.txs.getD i GTx.z).reads.any fun n => decide (n.region ≥ (c.places.length : Int)) with
      | true => rw [c2] at h; cases h
      | false =>
        rw [c2] at h
        refine ⟨rfl, fun k hk => ?_, fun k hk => ?_⟩
        · have := any_get (z := GNote.z) c2 k hk
          have := of_decide_eq_false this
          omega
        · have := any_get (z := GSet.z) (show ((c.txs.getD i GTx.z).sets.any fun n => decide (n.region ≥ (c.places.length : Int))) = false from h) k hk
          have := of_decide_eq_false this
          omega
  · rintro ⟨h1, h2, h3⟩
    rw [h1, any_no (z := GNote.z) fun k hk => decide_eq_false (by have := h2 k hk; omega), any_no (z := GSet.z) fun k hk => decide_eq_false (by have := h3 k hk; omega)]; rfl
theorem impl_isCluster_q (c : GCluster) (hb : D.bds bigN (cCluster c)) : Ans Tryz.prog 27 [] [vR (cCluster c)] [] (vB (dec (ClusOk c))) := by
  have b1 : c.places.length ≤ 1048576 := hb.2.2.1.1
  have b2 : c.machines.length ≤ 1048576 := hb.2.2.2.1.1
  have b3 : c.txs.length ≤ 1048576 := hb.2.2.2.2.1.1
  refine con_enter Tryz.func27 rfl rfl rfl fun B0 r_ D_ w0 => ?_
  refine T_auto TT_ok rfl ?_
  refine RJ_Q TT_ok (sizeMachine_q _) rfl rfl rfl rfl rfl ?_
  refine RJ_Q TT_ok (impl_isId_q _) rfl rfl rfl rfl rfl ?_
  refine RJ_Q TT_ok (impl_within_q _ _ _) rfl rfl rfl rfl rfl ?_
  refine RJ_Q TT_ok (impl_within_q _ _ _) rfl rfl rfl rfl rfl ?_
  refine RJ_Q TT_ok (impl_arePlaces_q _ b1 (fun i hi => (hb.2.2.1.2 i hi).1.1)) rfl rfl rfl rfl rfl ?_
  refine RJ_QF TT_ok (containsFuncMachine_p c.machines b2 (fun m => D.bds bigN (cMachine m)) (fun i hi => hb.2.2.2.1.2 i hi) fun m => !dec (MachOk m)) rfl rfl (SVs.cons (SV.imp_refl _) (SVs.cons (imp_fb (enters_B (by kernel_rfl)) rfl fun args x ⟨n, hn, e1, e2⟩ => by subst e1; subst e2; exact isCluster1_q n hn) rfl)) rfl rfl ?_
  refine T_cond rfl (fun e => ?_) (fun e => ?_)
  · refine T_auto TT_ok rfl ?_
    exact T_ansB TT_ok [(2, none)] rfl rfl ((dec_false fun h => by have h1 := h.1; rw [any_no (z := GMachine.z) fun j hj => by rw [dec_true (h.2.2.1 j hj)]; rfl] at e; simp [dec_true h.2.1, inB_iff.2 h1.1, inB_iff.2 h1.2.1, inB_iff.2 (show (1 : Int) ≤ (c.machines.length : Int) ∧ (c.machines.length : Int) ≤ 8 from by omega)] at e; omega).symm)
  have hH : (((1 ≤ c.config ∧ c.config ≤ 1000000) ∧ (0 ≤ c.clock ∧ c.clock ≤ 1000000) ∧ (1 ≤ c.machines.length ∧ c.machines.length ≤ 8) ∧ c.txs.length ≤ 60) ∧ PlOk c.places) ∧ (c.machines.any fun m => !dec (MachOk m)) = false := by
    simp only [Bool.cond_true_left, Bool.or_eq_false_iff, Bool.not_eq_false', inB_iff, decide_eq_false_iff_not, dec_iff] at e
    exact ⟨⟨by omega, e.1.2⟩, e.2⟩
  have hM : ∀ i, i < c.machines.length → MachOk (c.machines.getD i GMachine.z) := fun i hi => by have := any_get (z := GMachine.z) hH.2 i hi; simpa [dec_iff] using this
  replace hH := hH.1
  clear e
  refine T_auto TT_ok rfl ?_
  refine T_loopA (ι := Nat) (fun i => [(49, vI i)]) (fun _ => []) (fun i => i ≤ c.places.length ∧ ∀ r, r < i → ∀ k, k < (c.places.getD r GPlace.z).machines.length → badAt c r k = false) (fun i => c.places.length - i) 0 [] [] rfl rfl ⟨Nat.zero_le _, fun j hj => absurd hj (Nat.not_lt_zero _)⟩ (by repeat (first | exact trivial | refine And.intro ⟨_, rfl, SV.imp_refl _⟩ ?_)) (by repeat (first | exact trivial | refine And.intro ⟨_, rfl, Ch.imp_refl _⟩ ?_)) ?_
  intro i ⟨h1, h3⟩
  refine T_auto TT_ok rfl ?_
  refine T_condD rfl (fun e => ?_) (fun e => ?_)
  · have hi : i < c.places.length := by omega
    have hp := hH.2.2 i hi
    have hpl := hp.1
    refine T_auto TT_ok rfl ?_
    refine T_loopA (ι := Nat) (fun k => [(57, vI k)]) (fun _ => []) (fun k => k ≤ (c.places.getD i GPlace.z).machines.length ∧ ∀ j, j < k → badAt c i j = false) (fun k => (c.places.getD i GPlace.z).machines.length - k) 0 [] [] rfl rfl ⟨Nat.zero_le _, fun j hj => absurd hj (Nat.not_lt_zero _)⟩ (by repeat (first | exact trivial | refine And.intro ⟨_, rfl, SV.imp_refl _⟩ ?_)) (by repeat (first | exact trivial | refine And.intro ⟨_, rfl, Ch.imp_refl _⟩ ?_)) ?_
    intro k ⟨g1, g2⟩
    refine T_auto TT_ok rfl ?_
    refine T_condD rfl (fun e1 => ?_) (fun e1 => ?_)
    · have hk : k < (c.places.getD i GPlace.z).machines.length := by simp at e1 ⊢; omega
      have hn := pl_nonneg hp hk
      refine T_auto TT_ok rfl ?_
      cases hh : hasB (c.machines.getD (mAt c i k).toNat GMachine.z) i with
      | false =>
        refine RJ_Q TT_ok (cells_none_q _ (bdM_any hb _).2.1.1 _ hh) rfl rfl rfl rfl rfl ?_
        refine T_cond rfl (fun e2 => ?_) (fun e2 => ?_)
        · refine T_auto TT_ok rfl ?_
          exact T_ansB TT_ok [(2, none)] rfl rfl ((dec_false fun h => by have h5 := h.2.2.2.1 i hi k hk; unfold badAt at h5; rw [hh] at h5; have := h5.symm.trans e2; cases this).symm)
        · refine T_auto TT_ok rfl ?_
          exact X_inv (k + 1) ⟨hk, before_succ g2 (by unfold badAt; rw [hh]; exact e2)⟩ (by omega) (by repeat (first | exact trivial | refine And.intro ⟨_, rfl, SV.imp_refl _⟩ ?_)) (by repeat (first | exact trivial | refine And.intro ⟨_, rfl, Ch.imp_refl _⟩ ?_))
      | true =>
        obtain ⟨i0, w1, w2, w3⟩ := hasB_get hh
        refine RJ_QR TT_ok (cells_some_q _ (bdM_any hb _).2.1.1 _ i0 w1 w2 w3) rfl rfl (SVs.imp_refl _) rfl rfl ?_
        have h6 := cellsB_len (cells6 (hM _ (hasB_lt hh)) w1)
        refine RJ_nilG TT_ok rfl rfl rfl rfl rfl rfl rfl rfl rfl (by omega) ?_
        refine RJ_auto TT_ok rfl ?_
        refine T_cond rfl (fun e2 => ?_) (fun e2 => ?_)
        · refine T_auto TT_ok rfl ?_
          exact T_ansB TT_ok [(2, none)] rfl rfl ((dec_false fun h => by have h5 := h.2.2.2.1 i hi k hk; unfold badAt at h5; rw [hh] at h5; have := h5.symm.trans e2; cases this).symm)
        · refine T_auto TT_ok rfl ?_
          exact X_inv (k + 1) ⟨hk, before_succ g2 (by unfold badAt; rw [hh]; exact e2)⟩ (by omega) (by repeat (first | exact trivial | refine And.intro ⟨_, rfl, SV.imp_refl _⟩ ?_)) (by repeat (first | exact trivial | refine And.intro ⟨_, rfl, Ch.imp_refl _⟩ ?_))
    · refine T_auto TT_ok rfl ?_
      exact X_inv (i + 1) ⟨hi, before_succ h3 fun k hk => g2 k (by simp at e1 hk; omega)⟩ (by omega) (by repeat (first | exact trivial | refine And.intro ⟨_, rfl, SV.imp_refl _⟩ ?_)) (by repeat (first | exact trivial | refine And.intro ⟨_, rfl, Ch.imp_refl _⟩ ?_))
  have hi : i = c.places.length := by omega
  subst hi
  clear e h1
  refine T_auto TT_ok rfl ?_
  refine RJ_Q TT_ok (sizePlace_q _) rfl rfl rfl rfl rfl ?_
  refine T_loopA (ι := Nat) (fun i => [(89, vI i)]) (fun _ => []) (fun i => i ≤ c.txs.length ∧ ∀ j, j < i → badTx c j = false ∧ (∀ k, k < (c.txs.getD j GTx.z).reads.length → ((c.txs.getD j GTx.z).reads.getD k GNote.z).region < c.places.length) ∧ ∀ k, k < (c.txs.getD j GTx.z).sets.length → ((c.txs.getD j GTx.z).sets.getD k GSet.z).region < c.places.length) (fun i => c.txs.length - i) 0 [] [] rfl rfl ⟨Nat.zero_le _, fun j hj => absurd hj (Nat.not_lt_zero _)⟩ (by repeat (first | exact trivial | refine And.intro ⟨_, rfl, SV.imp_refl _⟩ ?_)) (by repeat (first | exact trivial | refine And.intro ⟨_, rfl, Ch.imp_refl _⟩ ?_)) ?_
  intro i ⟨h1, h4⟩
  refine T_auto TT_ok rfl ?_
  refine T_condD rfl (fun e => ?_) (fun e => ?_)
  · have hi : i < c.txs.length := by omega
    have r1 : (c.txs.getD i GTx.z).reads.length ≤ 1048576 := (hb.2.2.2.2.1.2 i hi).2.2.2.2.1.1
    have r2 : (c.txs.getD i GTx.z).sets.length ≤ 1048576 := (hb.2.2.2.2.1.2 i hi).2.2.2.2.2.1.1
    refine T_auto TT_ok rfl ?_
    refine T_drawA TT_ok [] rfl rfl fun B0 H0 => ?_
    refine DJ_Q TT_ok (impl_isTx_q _) rfl rfl rfl rfl rfl rfl ?_
    refine DJ_QF TT_ok (containsFuncNote_q (c.txs.getD i GTx.z).reads r1 fun n => decide (n.region ≥ (c.places.length : Int))) rfl rfl rfl (SVs.cons (SV.imp_refl _) (SVs.cons (imp_fb (enters_B (by kernel_rfl)) rfl fun args x ⟨n, e1, e2⟩ => by subst e1; subst e2; exact isCluster2_q n _) rfl)) rfl rfl ?_
    refine DJ_QF TT_ok (containsFuncSet_q (c.txs.getD i GTx.z).sets r2 fun n => decide (n.region ≥ (c.places.length : Int))) rfl rfl rfl (SVs.cons (SV.imp_refl _) (SVs.cons (imp_fb (enters_B (by kernel_rfl)) rfl fun args x ⟨n, e1, e2⟩ => by subst e1; subst e2; exact isCluster3_q n _) rfl)) rfl rfl ?_
    refine DJ_endA TT_ok rfl ?_
    refine T_cond rfl (fun e1 => ?_) (fun e1 => ?_)
    · refine T_auto TT_ok rfl ?_
      exact T_ansB TT_ok [(2, none)] rfl rfl ((dec_false fun h => by have := ((tx_impl c i).2 (h.2.2.2.2 i hi)).symm.trans e1; cases this).symm)
    · refine T_auto TT_ok rfl ?_
      exact X_inv (i + 1) ⟨hi, before_succ h4 ((tx_impl c i).1 e1)⟩ (by omega) (by repeat (first | exact trivial | refine And.intro ⟨_, rfl, SV.imp_refl _⟩ ?_)) (by repeat (first | exact trivial | refine And.intro ⟨_, rfl, Ch.imp_refl _⟩ ?_))
  · refine T_auto TT_ok rfl ?_
    exact T_ansB TT_ok [(2, none)] rfl rfl ((dec_true ⟨hH.1, hH.2, hM, h3, fun j hj => h4 j (by omega)⟩).symm)
end Go.Proofs.YtcikaknfogpeeaaGreat
