/-
  Searches of the library in lists of numbers; the votes as the program decides; the law's helpers for lists of numbers.
-/
import Derived.Test.YtiilpopeognekaaQ1
namespace Go.Proofs.Ytiilpopeognekaa
open Go Go.RowKit
set_option linter.unusedVariables false
set_option linter.unusedSimpArgs false
set_option maxRecDepth 4000

theorem slIndexI_q {r : PH} {w : World} (hr : Fit r w) (xs : List Int) (S : Value) (hS : kInt.srd r S xs) (n : Int) :
    Ret Try.prog 77 [S, .int .i64 n] w (.int .i64 (idxI (· == n) xs)) := by
  have hl := Kd.srd_len hS
  unfold maxL at hl
  obtain ⟨A, c, rfl, hA⟩ := srd_int hS
  refine enterQ Try.func77 rfl rfl [.a (.rs 1000 A xs.length c), .a (.v (.int .i64 n))] (fun _ => rfl) (Nat.le_of_ble_eq_true rfl) hr (GaOk.cons (k := 1000) hA (GaOk.nil r)) ?_
  repeat refine T_seq ?_
  refine T_region ?_
  refine RJ_run TT_ok rfl (by repeat (first | exact trivial | refine And.intro rfl ?_)) trivial ?_
  refine RJ_end ?_
  refine X_code ?_
  repeat refine T_seq ?_
  repeat refine T_seq ?_
  refine T_region ?_
  refine RJ_run TT_ok rfl (by repeat (first | exact trivial | refine And.intro rfl ?_)) trivial ?_
  refine RJ_end ?_
  refine X_code ?_
  repeat refine T_seq ?_
  repeat refine T_seq ?_
  refine T_block ?_
  refine T_loop (ι := Nat) (fun i => [(8, .a (.v (.int .i64 i))), (7, .a (.v (.int .i64 xs.length))), (0, .a (.rs 1000 A xs.length c)), (1, .a (.v (.int .i64 n)))]) (fun _ => []) (fun i => i ≤ xs.length ∧ ∀ j, j < i → (n == xs.getD j 0) = false) (fun i => xs.length - i) 0 ⟨Nat.zero_le _, fun j hj => absurd hj (Nat.not_lt_zero _)⟩ (by repeat (first | exact trivial | refine And.intro rfl ?_)) trivial ?_
  intro i ⟨h1, h2⟩
  repeat refine T_seq ?_
  refine T_region ?_
  refine RJ_run TT_ok rfl (by repeat (first | exact trivial | refine And.intro rfl ?_)) trivial ?_
  refine RJ_end ?_
  refine X_code ?_
  repeat refine T_seq ?_
  refine T_cond rfl (fun e => ?_) (fun e => ?_)
  · have hi : i < xs.length := by simpa using e
    refine T_skip (X_code ?_)
    repeat refine T_seq ?_
    refine T_block ?_
    repeat refine T_seq ?_
    refine T_region ?_
    refine RJ_run TT_ok rfl (by repeat (first | exact trivial | refine And.intro rfl ?_)) trivial ?_
    refine RJ_end ?_
    refine X_code ?_
    repeat refine T_seq ?_
    repeat refine T_seq ?_
    refine T_region ?_
    refine RJ_run TT_ok rfl (by repeat (first | exact trivial | refine And.intro rfl ?_)) ?_ ?_
    · simp only [GAlls, GO.p, InR]
      (repeat' (first | exact trivial | refine And.intro ?_ ?_ | refine fun _ => ?_)) <;> omega
    refine RJ_end ?_
    refine X_code ?_
    repeat refine T_seq ?_
    refine T_cond rfl (fun e => ?_) (fun e => ?_)
    · repeat refine T_seq ?_
      refine T_region ?_
      refine RJ_run TT_ok rfl (by repeat (first | exact trivial | refine And.intro rfl ?_)) trivial ?_
      refine RJ_end ?_
      refine X_code ?_
      repeat refine T_seq ?_
      refine retQ [4] rfl rfl fun _ => ?_
      rw [idx_at (d := 0) hi (fun j hj => by have := h2 j hj; rwa [Bool.beq_comm] at this) (by rw [Bool.beq_comm]; simpa using e)]; rfl
    · refine T_skip (X_code ?_)
      repeat refine T_seq ?_
      refine T_region ?_
      refine RJ_run TT_ok rfl (by repeat (first | exact trivial | refine And.intro rfl ?_)) ?_ ?_
      · simp only [GAlls, GO.p, InR]
        (repeat' (first | exact trivial | refine And.intro ?_ ?_ | refine fun _ => ?_)) <;> omega
      refine RJ_end ?_
      exact X_inv (i + 1) ⟨hi, before_succ h2 (by simpa using e)⟩ (by omega) (by repeat (first | exact trivial | refine And.intro rfl ?_)) trivial
  · have hi : xs.length ≤ i := by simpa using e
    refine T_exit rfl (X_code ?_)
    repeat refine T_seq ?_
    refine T_region ?_
    refine RJ_run TT_ok rfl (by repeat (first | exact trivial | refine And.intro rfl ?_)) trivial ?_
    refine RJ_end ?_
    refine X_code ?_
    repeat refine T_seq ?_
    refine retQ [4] rfl rfl fun _ => ?_
    rw [idx_no (d := 0) fun j hj => by have := h2 j (by omega); rwa [Bool.beq_comm] at this]; rfl
theorem slContainsI_q {r : PH} {w : World} (hr : Fit r w) (xs : List Int) (S : Value) (hS : kInt.srd r S xs) (n : Int) :
    Ret Try.prog 51 [S, .int .i64 n] w (.bool (xs.any (· == n))) := by
  refine enterQ Try.func51 rfl rfl [.a (.v S), .a (.v (.int .i64 n))] (fun _ => rfl) (Nat.le_of_ble_eq_true rfl) hr (GaOk.nil r) ?_
  repeat refine T_seq ?_
  refine T_region ?_
  refine RJ_run TT_ok rfl (by repeat (first | exact trivial | refine And.intro rfl ?_)) trivial ?_
  refine RJ_end ?_
  refine X_code ?_
  repeat refine T_seq ?_
  repeat refine T_seq ?_
  refine T_region ?_
  refine RJ_run TT_ok rfl (by repeat (first | exact trivial | refine And.intro rfl ?_)) trivial ?_
  refine RJ_q rfl rfl rfl rfl (enters_of Try.func77 (by kernel_rfl) rfl) rfl (fun B w' H m => slIndexI_q m.fitr xs _ hS n) ?_
  refine RJ_run TT_ok rfl (by repeat (first | exact trivial | refine And.intro rfl ?_)) trivial ?_
  refine RJ_end ?_
  refine X_code ?_
  repeat refine T_seq ?_
  refine retQ [4] rfl rfl fun _ => ?_
  rw [← idx_any]; rfl
/-- a closure that answers p of a number -/
def AnsI (P : Program) (r : PH) (f : Nat) (caps : List Value) (p : Int → Bool) : Prop := ∀ w, Fit r w → ∀ x, Ret P f (.int .i64 x :: caps) w (.bool (p x))
theorem slIndexFuncI_q {r : PH} {w : World} (hr : Fit r w) (xs : List Int) (S : Value) (hS : kInt.srd r S xs) (f : Nat) (caps : List Value) (p : Int → Bool) (hE : Enters Try.prog f) (hp : AnsI Try.prog r f caps p) :
    Ret Try.prog 78 [S, .func (.func f) #[] caps.toArray] w (.int .i64 (idxI p xs)) := by
  have hl := Kd.srd_len hS
  unfold maxL at hl
  obtain ⟨A, c, rfl, hA⟩ := srd_int hS
  refine enterQ Try.func78 rfl rfl [.a (.rs 1000 A xs.length c), .fn f (caps.map AV.v)] (fun B => by simp [SV.den, AV.den, Function.comp_def]) (Nat.le_of_ble_eq_true rfl) hr (GaOk.cons (k := 1000) hA (GaOk.nil r)) ?_
  repeat refine T_seq ?_
  refine T_region ?_
  refine RJ_run TT_ok rfl (by repeat (first | exact trivial | refine And.intro rfl ?_)) trivial ?_
  refine RJ_end ?_
  refine X_code ?_
  repeat refine T_seq ?_
  repeat refine T_seq ?_
  refine T_region ?_
  refine RJ_run TT_ok rfl (by repeat (first | exact trivial | refine And.intro rfl ?_)) trivial ?_
  refine RJ_end ?_
  refine X_code ?_
  repeat refine T_seq ?_
  repeat refine T_seq ?_
  refine T_block ?_
  refine T_loop (ι := Nat) (fun i => [(8, .a (.v (.int .i64 i))), (7, .a (.v (.int .i64 xs.length))), (0, .a (.rs 1000 A xs.length c)), (1, .fn f (caps.map AV.v))]) (fun _ => []) (fun i => i ≤ xs.length ∧ ∀ j, j < i → p (xs.getD j 0) = false) (fun i => xs.length - i) 0 ⟨Nat.zero_le _, fun j hj => absurd hj (Nat.not_lt_zero _)⟩ (by repeat (first | exact trivial | refine And.intro rfl ?_)) trivial ?_
  intro i ⟨h1, h2⟩
  repeat refine T_seq ?_
  refine T_region ?_
  refine RJ_run TT_ok rfl (by repeat (first | exact trivial | refine And.intro rfl ?_)) trivial ?_
  refine RJ_end ?_
  refine X_code ?_
  repeat refine T_seq ?_
  refine T_cond rfl (fun e => ?_) (fun e => ?_)
  · have hi : i < xs.length := by simpa using e
    refine T_skip (X_code ?_)
    repeat refine T_seq ?_
    refine T_block ?_
    repeat refine T_seq ?_
    refine T_region ?_
    refine RJ_run TT_ok rfl (by repeat (first | exact trivial | refine And.intro rfl ?_)) trivial ?_
    refine RJ_end ?_
    refine X_code ?_
    repeat refine T_seq ?_
    repeat refine T_seq ?_
    refine T_region ?_
    refine RJ_run TT_ok rfl (by repeat (first | exact trivial | refine And.intro rfl ?_)) ?_ ?_
    · simp only [GAlls, GO.p, InR]
      (repeat' (first | exact trivial | refine And.intro ?_ ?_ | refine fun _ => ?_)) <;> omega
    refine RJ_q rfl rfl rfl rfl hE rfl (fun B w' H m => by simpa [SV.den, AV.den, Function.comp_def] using hp w' m.fitr (xs.getD i 0)) ?_
    refine RJ_run TT_ok rfl (by repeat (first | exact trivial | refine And.intro rfl ?_)) trivial ?_
    refine RJ_end ?_
    refine X_code ?_
    repeat refine T_seq ?_
    refine T_cond rfl (fun e => ?_) (fun e => ?_)
    · repeat refine T_seq ?_
      refine T_region ?_
      refine RJ_run TT_ok rfl (by repeat (first | exact trivial | refine And.intro rfl ?_)) trivial ?_
      refine RJ_end ?_
      refine X_code ?_
      repeat refine T_seq ?_
      refine retQ [4] rfl rfl fun _ => ?_
      rw [idx_at (d := 0) hi h2 (by simpa using e)]; rfl
    · refine T_skip (X_code ?_)
      repeat refine T_seq ?_
      refine T_region ?_
      refine RJ_run TT_ok rfl (by repeat (first | exact trivial | refine And.intro rfl ?_)) ?_ ?_
      · simp only [GAlls, GO.p, InR]
        (repeat' (first | exact trivial | refine And.intro ?_ ?_ | refine fun _ => ?_)) <;> omega
      refine RJ_end ?_
      exact X_inv (i + 1) ⟨hi, before_succ h2 (by simpa using e)⟩ (by omega) (by repeat (first | exact trivial | refine And.intro rfl ?_)) trivial
  · have hi : xs.length ≤ i := by simpa using e
    refine T_exit rfl (X_code ?_)
    repeat refine T_seq ?_
    refine T_region ?_
    refine RJ_run TT_ok rfl (by repeat (first | exact trivial | refine And.intro rfl ?_)) trivial ?_
    refine RJ_end ?_
    refine X_code ?_
    repeat refine T_seq ?_
    refine retQ [4] rfl rfl fun _ => ?_
    rw [idx_no (d := 0) fun j hj => h2 j (by omega)]; rfl
theorem slContainsFuncI_q {r : PH} {w : World} (hr : Fit r w) (xs : List Int) (S : Value) (hS : kInt.srd r S xs) (f : Nat) (caps : List Value) (p : Int → Bool) (hE : Enters Try.prog f) (hp : AnsI Try.prog r f caps p) :
    Ret Try.prog 52 [S, .func (.func f) #[] caps.toArray] w (.bool (xs.any p)) := by
  refine enterQ Try.func52 rfl rfl [.a (.v S), .fn f (caps.map AV.v)] (fun B => by simp [SV.den, AV.den, Function.comp_def]) (Nat.le_of_ble_eq_true rfl) hr (GaOk.nil r) ?_
  repeat refine T_seq ?_
  refine T_region ?_
  refine RJ_run TT_ok rfl (by repeat (first | exact trivial | refine And.intro rfl ?_)) trivial ?_
  refine RJ_end ?_
  refine X_code ?_
  repeat refine T_seq ?_
  repeat refine T_seq ?_
  refine T_region ?_
  refine RJ_run TT_ok rfl (by repeat (first | exact trivial | refine And.intro rfl ?_)) trivial ?_
  refine RJ_q rfl rfl rfl rfl (enters_of Try.func78 (by kernel_rfl) rfl) rfl (fun B w' H m => by simpa [SV.den, AV.den, Function.comp_def] using slIndexFuncI_q m.fitr xs _ hS f caps p hE hp) ?_
  refine RJ_run TT_ok rfl (by repeat (first | exact trivial | refine And.intro rfl ?_)) trivial ?_
  refine RJ_end ?_
  refine X_code ?_
  repeat refine T_seq ?_
  refine retQ [4] rfl rfl fun _ => ?_
  rw [← idx_any]; rfl
theorem implDecide1_q {r : PH} : AnsI Try.prog r 53 [] fun x => decide (x < 2) := fun w hr x => by
  refine enterQ Try.func53 rfl rfl [.a (.v (.int .i64 x))] (fun _ => rfl) (Nat.le_of_ble_eq_true rfl) hr (GaOk.nil r) ?_
  repeat refine T_seq ?_
  refine T_region ?_
  refine RJ_run TT_ok rfl (by repeat (first | exact trivial | refine And.intro rfl ?_)) trivial ?_
  refine RJ_end ?_
  refine X_code ?_
  repeat refine T_seq ?_
  repeat refine T_seq ?_
  refine T_region ?_
  refine RJ_run TT_ok rfl (by repeat (first | exact trivial | refine And.intro rfl ?_)) trivial ?_
  refine RJ_end ?_
  refine X_code ?_
  repeat refine T_seq ?_
  exact retQ [2] rfl rfl fun _ => rfl
theorem implDecide_q {r : PH} {w : World} (hr : Fit r w) (xs : List Int) (S : Value) (hS : kInt.srd r S xs) : Ret Try.prog 35 [S] w (.bool (decideM xs)) := by
  refine enterQ Try.func35 rfl rfl [.a (.v S)] (fun _ => rfl) (Nat.le_of_ble_eq_true rfl) hr (GaOk.nil r) ?_
  repeat refine T_seq ?_
  refine T_region ?_
  refine RJ_run TT_ok rfl (by repeat (first | exact trivial | refine And.intro rfl ?_)) trivial ?_
  refine RJ_end ?_
  refine X_code ?_
  repeat refine T_seq ?_
  repeat refine T_seq ?_
  refine T_region ?_
  refine RJ_run TT_ok rfl (by repeat (first | exact trivial | refine And.intro rfl ?_)) trivial ?_
  refine RJ_q rfl rfl rfl rfl (enters_of Try.func51 (by kernel_rfl) rfl) rfl (fun B w' H m => slContainsI_q m.fitr xs _ hS 4) ?_
  refine RJ_run TT_ok rfl (by repeat (first | exact trivial | refine And.intro rfl ?_)) trivial ?_
  refine RJ_qg rfl rfl rfl rfl rfl rfl (enters_of Try.func51 (by kernel_rfl) rfl) rfl (q := True) rfl (by repeat (first | exact trivial | intro _)) (fun _ B w' H m => slContainsI_q m.fitr xs _ hS 3) ?_
  refine RJ_run TT_ok rfl (by repeat (first | exact trivial | refine And.intro rfl ?_)) trivial ?_
  refine RJ_qg rfl rfl rfl rfl rfl rfl (enters_of Try.func52 (by kernel_rfl) rfl) rfl (q := True) rfl (by repeat (first | exact trivial | intro _)) (fun _ B w' H m => slContainsFuncI_q m.fitr xs _ hS 53 [] _ (enters_of Try.func53 (by kernel_rfl) rfl) implDecide1_q) ?_
  refine RJ_run TT_ok rfl (by repeat (first | exact trivial | refine And.intro rfl ?_)) trivial ?_
  refine RJ_end ?_
  refine X_code ?_
  repeat refine T_seq ?_
  refine retQ [2] rfl rfl fun _ => ?_
  simp only [SV.den, AV.den, List.map, resV, decideM]
  congr 1
  have e4 : (!(xs.any fun x => decide (x < 2))) = xs.all fun x => decide (2 ≤ x) := by
    rw [List.not_any_eq_all_not]
    congr 1; funext x
    by_cases h : 2 ≤ x
    · rw [decide_eq_true h, decide_eq_false (by omega)]; rfl
    · rw [decide_eq_false h, decide_eq_true (by omega)]; rfl
  rw [e4]
  cases (xs.any fun x => x == 4) <;> cases (xs.any fun x => x == 3) <;> rfl
theorem implDecideX_q {r : PH} {w : World} (hr : Fit r w) (xs : List Int) (S : Value) (hS : kInt.srd r S xs) : Ret Try.prog 10 [S] w (.bool (decideM xs)) := by
  refine enterQ Try.func10 rfl rfl [.a (.v S)] (fun _ => rfl) (Nat.le_of_ble_eq_true rfl) hr (GaOk.nil r) ?_
  repeat refine T_seq ?_
  refine T_region ?_
  refine RJ_run TT_ok rfl (by repeat (first | exact trivial | refine And.intro rfl ?_)) trivial ?_
  refine RJ_end ?_
  refine X_code ?_
  repeat refine T_seq ?_
  repeat refine T_seq ?_
  refine T_region ?_
  refine RJ_run TT_ok rfl (by repeat (first | exact trivial | refine And.intro rfl ?_)) trivial ?_
  refine RJ_q rfl rfl rfl rfl (enters_of Try.func35 (by kernel_rfl) rfl) rfl (fun B w' H m => implDecide_q m.fitr xs _ hS) ?_
  refine RJ_run TT_ok rfl (by repeat (first | exact trivial | refine And.intro rfl ?_)) trivial ?_
  refine RJ_end ?_
  refine X_code ?_
  repeat refine T_seq ?_
  exact retQ [2] rfl rfl fun _ => rfl
end Go.Proofs.Ytiilpopeognekaa
