/-
  Searches in lists of numbers; votes.
-/
import Derived.Test.YtiilpopeognekaaL
import Derived.Test.YtiilpopeognekaaTT
namespace Go.Proofs.Ytiilpopeognekaa
open Go Go.RowKit
set_option linter.unusedVariables false
set_option linter.unusedSimpArgs false
set_option maxRecDepth 4000

theorem l3Has_q {r : PH} {w : World} (hr : Fit r w) (xs : List Int) (S : Value) (hS : kInt.srd r S xs) (n : Int) :
    Ret Try.prog 34 [S, .int .i64 n] w (.bool (xs.any (· == n))) := by
  have hl := Kd.srd_len hS
  unfold maxL at hl
  obtain ⟨A, c, rfl, hA⟩ := srd_int hS
  refine enterQ Try.func34 rfl rfl [.a (.rs 1000 A xs.length c), .a (.v (.int .i64 n))] (fun _ => rfl) (Nat.le_of_ble_eq_true rfl) hr (GaOk.cons (k := 1000) hA (GaOk.nil r)) ?_
  repeat refine T_seq ?_
  refine T_region ?_
  refine RJ_run TT_ok rfl (by repeat (first | exact trivial | refine And.intro rfl ?_)) trivial ?_
  refine RJ_end ?_
  refine X_code ?_
  repeat refine T_seq ?_
  repeat refine T_seq ?_
  refine T_region ?_
  refine RJ_run TT_ok rfl (by repeat (first | exact trivial | refine And.intro rfl ?_)) trivial ?_
  refine RJ_end ?_
  refine X_code ?_
  repeat refine T_seq ?_
  repeat refine T_seq ?_
  refine T_block ?_
  refine T_loop (ι := Nat) (fun i => [(5, .a (.v (.int .i64 i))), (0, .a (.rs 1000 A xs.length c)), (1, .a (.v (.int .i64 n)))]) (fun _ => []) (fun i => i ≤ xs.length ∧ ∀ j, j < i → (xs.getD j 0 == n) = false) (fun i => xs.length - i) 0 ⟨Nat.zero_le _, fun j hj => absurd hj (Nat.not_lt_zero _)⟩ (by repeat (first | exact trivial | refine And.intro rfl ?_)) trivial ?_
  intro i ⟨h1, h2⟩
  repeat refine T_seq ?_
  refine T_region ?_
  refine RJ_run TT_ok rfl (by repeat (first | exact trivial | refine And.intro rfl ?_)) trivial ?_
  refine RJ_end ?_
  refine X_code ?_
  repeat refine T_seq ?_
  refine T_cond rfl (fun e => ?_) (fun e => ?_)
  · have hi : i < xs.length := by simpa using e
    refine T_skip (X_code ?_)
    repeat refine T_seq ?_
    refine T_block ?_
    repeat refine T_seq ?_
    refine T_region ?_
    refine RJ_run TT_ok rfl (by repeat (first | exact trivial | refine And.intro rfl ?_)) ?_ ?_
    · simp only [GAlls, GO.p, InR]
      (repeat' (first | exact trivial | refine And.intro ?_ ?_ | refine fun _ => ?_)) <;> omega
    refine RJ_end ?_
    refine X_code ?_
    repeat refine T_seq ?_
    refine T_cond rfl (fun e => ?_) (fun e => ?_)
    · repeat refine T_seq ?_
      refine T_region ?_
      refine RJ_run TT_ok rfl (by repeat (first | exact trivial | refine And.intro rfl ?_)) trivial ?_
      refine RJ_end ?_
      refine X_code ?_
      repeat refine T_seq ?_
      refine retQ [4] rfl rfl fun _ => ?_
      rw [any_at hi (d := 0) (by simpa using e)]; rfl
    · refine T_skip (X_code ?_)
      repeat refine T_seq ?_
      refine T_region ?_
      refine RJ_run TT_ok rfl (by repeat (first | exact trivial | refine And.intro rfl ?_)) ?_ ?_
      · simp only [GAlls, GO.p, InR]
        (repeat' (first | exact trivial | refine And.intro ?_ ?_ | refine fun _ => ?_)) <;> omega
      refine RJ_end ?_
      exact X_inv (i + 1) ⟨hi, before_succ h2 (by simpa using e)⟩ (by omega) (by repeat (first | exact trivial | refine And.intro rfl ?_)) trivial
  · have hi : xs.length ≤ i := by simpa using e
    refine T_exit rfl (X_code ?_)
    repeat refine T_seq ?_
    refine T_region ?_
    refine RJ_run TT_ok rfl (by repeat (first | exact trivial | refine And.intro rfl ?_)) trivial ?_
    refine RJ_end ?_
    refine X_code ?_
    repeat refine T_seq ?_
    refine retQ [4] rfl rfl fun _ => ?_
    rw [any_no (d := 0) fun j hj => h2 j (by omega)]; rfl

theorem l1Min_q {r : PH} {w : World} (hr : Fit r w) (a b : Int) : Ret Try.prog 32 [.int .i64 a, .int .i64 b] w (.int .i64 (minI a b)) := by
  refine enterQ Try.func32 rfl rfl [.a (.v (.int .i64 a)), .a (.v (.int .i64 b))] (fun _ => rfl) (Nat.le_of_ble_eq_true rfl) hr (GaOk.nil r) ?_
  repeat refine T_seq ?_
  refine T_region ?_
  refine RJ_run TT_ok rfl (by repeat (first | exact trivial | refine And.intro rfl ?_)) trivial ?_
  refine RJ_end ?_
  refine X_code ?_
  repeat refine T_seq ?_
  repeat refine T_seq ?_
  refine T_region ?_
  refine RJ_run TT_ok rfl (by repeat (first | exact trivial | refine And.intro rfl ?_)) trivial ?_
  refine RJ_end ?_
  refine X_code ?_
  repeat refine T_seq ?_
  refine T_cond rfl (fun e => ?_) (fun e => ?_)
  · repeat refine T_seq ?_
    refine T_region ?_
    refine RJ_run TT_ok rfl (by repeat (first | exact trivial | refine And.intro rfl ?_)) trivial ?_
    refine RJ_end ?_
    refine X_code ?_
    repeat refine T_seq ?_
    refine retQ [4] rfl rfl fun _ => ?_
    simp only [minI, maxI]; rw [if_pos (by simpa using e)]; rfl
  · refine T_skip (X_code ?_)
    repeat refine T_seq ?_
    refine T_region ?_
    refine RJ_run TT_ok rfl (by repeat (first | exact trivial | refine And.intro rfl ?_)) trivial ?_
    refine RJ_end ?_
    refine X_code ?_
    repeat refine T_seq ?_
    refine retQ [4] rfl rfl fun _ => ?_
    simp only [minI, maxI]; rw [if_neg (by simpa using e)]; rfl
theorem l1Max_q {r : PH} {w : World} (hr : Fit r w) (a b : Int) : Ret Try.prog 33 [.int .i64 a, .int .i64 b] w (.int .i64 (maxI a b)) := by
  refine enterQ Try.func33 rfl rfl [.a (.v (.int .i64 a)), .a (.v (.int .i64 b))] (fun _ => rfl) (Nat.le_of_ble_eq_true rfl) hr (GaOk.nil r) ?_
  repeat refine T_seq ?_
  refine T_region ?_
  refine RJ_run TT_ok rfl (by repeat (first | exact trivial | refine And.intro rfl ?_)) trivial ?_
  refine RJ_end ?_
  refine X_code ?_
  repeat refine T_seq ?_
  repeat refine T_seq ?_
  refine T_region ?_
  refine RJ_run TT_ok rfl (by repeat (first | exact trivial | refine And.intro rfl ?_)) trivial ?_
  refine RJ_end ?_
  refine X_code ?_
  repeat refine T_seq ?_
  refine T_cond rfl (fun e => ?_) (fun e => ?_)
  · repeat refine T_seq ?_
    refine T_region ?_
    refine RJ_run TT_ok rfl (by repeat (first | exact trivial | refine And.intro rfl ?_)) trivial ?_
    refine RJ_end ?_
    refine X_code ?_
    repeat refine T_seq ?_
    refine retQ [4] rfl rfl fun _ => ?_
    simp only [minI, maxI]; rw [if_pos (by simpa using e)]; rfl
  · refine T_skip (X_code ?_)
    repeat refine T_seq ?_
    refine T_region ?_
    refine RJ_run TT_ok rfl (by repeat (first | exact trivial | refine And.intro rfl ?_)) trivial ?_
    refine RJ_end ?_
    refine X_code ?_
    repeat refine T_seq ?_
    refine retQ [4] rfl rfl fun _ => ?_
    simp only [minI, maxI]; rw [if_neg (by simpa using e)]; rfl

/-- to commit: one is 4, or one is 3 and none is below 2 -/
def decideM (v : List Int) : Bool := v.any (· == 4) || (v.any (· == 3) && v.all fun x => decide (2 ≤ x))
theorem specDecide_q {r : PH} {w : World} (hr : Fit r w) (xs : List Int) (S : Value) (hS : kInt.srd r S xs) : Ret Try.prog 8 [S] w (.bool (decideM xs)) := by
  have hl := Kd.srd_len hS
  unfold maxL at hl
  obtain ⟨A, c, rfl, hA⟩ := srd_int hS
  refine enterQ Try.func8 rfl rfl [.a (.rs 1000 A xs.length c)] (fun _ => rfl) (Nat.le_of_ble_eq_true rfl) hr (GaOk.cons (k := 1000) hA (GaOk.nil r)) ?_
  repeat refine T_seq ?_
  refine T_region ?_
  refine RJ_run TT_ok rfl (by repeat (first | exact trivial | refine And.intro rfl ?_)) trivial ?_
  refine RJ_end ?_
  refine X_code ?_
  repeat refine T_seq ?_
  repeat refine T_seq ?_
  refine T_region ?_
  refine RJ_run TT_ok rfl (by repeat (first | exact trivial | refine And.intro rfl ?_)) trivial ?_
  refine RJ_end ?_
  refine X_code ?_
  repeat refine T_seq ?_
  repeat refine T_seq ?_
  refine T_region ?_
  refine RJ_run TT_ok rfl (by repeat (first | exact trivial | refine And.intro rfl ?_)) trivial ?_
  refine RJ_end ?_
  refine X_code ?_
  repeat refine T_seq ?_
  repeat refine T_seq ?_
  refine T_region ?_
  refine RJ_run TT_ok rfl (by repeat (first | exact trivial | refine And.intro rfl ?_)) trivial ?_
  refine RJ_end ?_
  refine X_code ?_
  repeat refine T_seq ?_
  repeat refine T_seq ?_
  refine T_block ?_
  refine T_loop (ι := Nat × Int × Int) (fun x => [(5, .a (.v (.int .i64 x.1))), (3, .a (.v (.int .i64 x.2.1))), (4, .a (.v (.int .i64 x.2.2))), (0, .a (.rs 1000 A xs.length c))]) (fun _ => []) (fun x => x.1 ≤ xs.length ∧ (2 ≤ x.2.1 ↔ ∀ j, j < x.1 → 2 ≤ xs.getD j 0) ∧ (0 < x.2.2 ↔ ∃ j, j < x.1 ∧ 0 < xs.getD j 0)) (fun x => xs.length - x.1) (0, 4, 0) ⟨Nat.zero_le _, ⟨fun _ j hj => absurd hj (Nat.not_lt_zero _), fun _ => by decide⟩, ⟨fun h => absurd h (by decide), fun ⟨j, hj, _⟩ => absurd hj (Nat.not_lt_zero _)⟩⟩ (by repeat (first | exact trivial | refine And.intro rfl ?_)) trivial ?_
  intro ⟨i, low, high⟩ ⟨h1, h2, h3⟩
  simp only at h1 h2 h3
  repeat refine T_seq ?_
  refine T_region ?_
  refine RJ_run TT_ok rfl (by repeat (first | exact trivial | refine And.intro rfl ?_)) trivial ?_
  refine RJ_end ?_
  refine X_code ?_
  repeat refine T_seq ?_
  refine T_cond rfl (fun e => ?_) (fun e => ?_)
  · have hi : i < xs.length := by simpa using e
    refine T_skip (X_code ?_)
    repeat refine T_seq ?_
    refine T_block ?_
    repeat refine T_seq ?_
    refine T_region ?_
    refine RJ_run TT_ok rfl (by repeat (first | exact trivial | refine And.intro rfl ?_)) ?_ ?_
    · simp only [GAlls, GO.p, InR]
      (repeat' (first | exact trivial | refine And.intro ?_ ?_ | refine fun _ => ?_)) <;> omega
    refine RJ_q rfl rfl rfl rfl (enters_of Try.func32 (by kernel_rfl) rfl) rfl (fun B w' H m => l1Min_q m.fitr low (xs.getD (i : Int).toNat 0)) ?_
    refine RJ_run TT_ok rfl (by repeat (first | exact trivial | refine And.intro rfl ?_)) trivial ?_
    refine RJ_end ?_
    refine X_code ?_
    repeat refine T_seq ?_
    repeat refine T_seq ?_
    refine T_region ?_
    refine RJ_run TT_ok rfl (by repeat (first | exact trivial | refine And.intro rfl ?_)) ?_ ?_
    · simp only [GAlls, GO.p, InR]
      (repeat' (first | exact trivial | refine And.intro ?_ ?_ | refine fun _ => ?_)) <;> omega
    refine RJ_q rfl rfl rfl rfl (enters_of Try.func33 (by kernel_rfl) rfl) rfl (fun B w' H m => l1Max_q m.fitr high (xs.getD (i : Int).toNat 0)) ?_
    refine RJ_run TT_ok rfl (by repeat (first | exact trivial | refine And.intro rfl ?_)) trivial ?_
    refine RJ_end ?_
    refine X_code ?_
    repeat refine T_seq ?_
    repeat refine T_seq ?_
    refine T_region ?_
    refine RJ_run TT_ok rfl (by repeat (first | exact trivial | refine And.intro rfl ?_)) ?_ ?_
    · simp only [GAlls, GO.p, InR]
      (repeat' (first | exact trivial | refine And.intro ?_ ?_ | refine fun _ => ?_)) <;> omega
    refine RJ_end ?_
    refine X_inv (i + 1, minI low (xs.getD (i : Int).toNat 0), maxI high (xs.getD (i : Int).toNat 0)) ?_ (by simp only; omega) (by repeat (first | exact trivial | refine And.intro rfl ?_)) trivial
    simp only [Int.toNat_natCast, minI, maxI]
    refine ⟨hi, ⟨fun h j hj => ?_, fun h => ?_⟩, ⟨fun h => ?_, fun h => ?_⟩⟩
    · rcases Nat.lt_succ_iff_lt_or_eq.1 hj with hj | rfl
      · exact h2.1 (by split at h <;> omega) j hj
      · split at h <;> omega
    · have a1 := h2.2 fun j hj => h j (Nat.lt_succ_of_lt hj)
      have a2 := h i (Nat.lt_succ_self i)
      split <;> omega
    · by_cases hh : 0 < high
      · obtain ⟨j, hj, hp⟩ := h3.1 hh
        exact ⟨j, Nat.lt_succ_of_lt hj, hp⟩
      · exact ⟨i, Nat.lt_succ_self i, by split at h <;> omega⟩
    · obtain ⟨j, hj, h⟩ := h
      rcases Nat.lt_succ_iff_lt_or_eq.1 hj with hj | rfl
      · have := h3.2 ⟨j, hj, h⟩
        split <;> omega
      · split <;> omega
  · have hi : i = xs.length := by
      have : xs.length ≤ i := by simpa using e
      omega
    subst hi
    refine T_exit rfl (X_code ?_)
    repeat refine T_seq ?_
    refine T_region ?_
    refine RJ_run TT_ok rfl (by repeat (first | exact trivial | refine And.intro rfl ?_)) ?_ ?_
    · trivial
    refine RJ_q rfl rfl rfl rfl (enters_of Try.func34 (by kernel_rfl) rfl) rfl (fun B w' H m => l3Has_q m.fitr xs _ hS 4) ?_
    refine RJ_run TT_ok rfl (by repeat (first | exact trivial | refine And.intro rfl ?_)) trivial ?_
    refine RJ_qg rfl rfl rfl rfl rfl rfl (enters_of Try.func34 (by kernel_rfl) rfl) rfl (q := True) rfl (by repeat (first | exact trivial | intro _)) (fun _ B w' H m => l3Has_q m.fitr xs _ hS 3) ?_
    refine RJ_run TT_ok rfl (by repeat (first | exact trivial | refine And.intro rfl ?_)) trivial ?_
    refine RJ_end ?_
    refine X_code ?_
    repeat refine T_seq ?_
    refine retQ [2] rfl rfl fun _ => ?_
    simp only [SV.den, AV.den, List.map, resV, decideM]
    congr 1
    have e4 : decide (low ≥ 2) = xs.all fun x => decide (2 ≤ x) := by
      by_cases h : 2 ≤ low
      · rw [all_yes (d := 0) fun j hj => by simpa using h2.1 h j hj]; simpa using h
      · rw [show decide (low ≥ 2) = false from by simpa using h]
        cases e : xs.all fun x => decide (2 ≤ x) with
        | false => rfl
        | true => exact absurd (h2.2 fun j hj => by simpa using List.all_eq_true.1 e _ (getD_mem hj)) h
    have e3 : (xs.any fun x => x == 3) = true → decide (high > 0) = true := fun h => by
      obtain ⟨x, hx, h5⟩ := List.any_eq_true.1 h
      obtain ⟨i, hi, rfl⟩ := mem_getD hx 0
      simpa using h3.2 ⟨i, hi, by have := int_beq_true h5; omega⟩
    rw [e4]
    cases e5 : xs.any fun x => x == 3 with
    | false => cases xs.any fun x => x == 4 <;> rfl
    | true => rw [e3 e5]; cases (xs.any fun x => x == 4) <;> cases (xs.all fun x => decide (2 ≤ x)) <;> rfl
end Go.Proofs.Ytiilpopeognekaa
