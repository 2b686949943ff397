/-
  The law's helpers for lists of numbers; the law of Decide.
-/
import Derived.Test.YtiilpopeognekaaQ2
namespace Go.Proofs.Ytiilpopeognekaa
open Go Go.RowKit
set_option linter.unusedVariables false
set_option linter.unusedSimpArgs false
set_option maxRecDepth 4000

def mixL {α : Type} (xs : List α) (z : α) (i j : Nat) : α := if j < i then xs.getD j z else z
theorem mix_zero {α : Type} (xs : List α) (z : α) (j : Nat) : mixL xs z 0 j = z := by simp [mixL]
theorem mix_all {α : Type} {xs : List α} {z : α} {j : Nat} {x : α} (h : xs[j]? = some x) : mixL xs z xs.length j = x := by
  have hj := (List.getElem?_eq_some_iff.1 h).1
  simp only [mixL, if_pos hj]
  simp [List.getD_eq_getElem?_getD, h]
theorem mix_step {α β : Type} (f : α → β) (xs : List α) (z : α) (i j : Nat) : (bif Nat.beq j i then f (xs.getD i z) else f (mixL xs z i j)) = f (mixL xs z (i + 1) j) := by
  by_cases h : j = i
  · subst h; simp [mixL, Nat.beq_refl]
  · have hb : Nat.beq j i = false := mk_set_aux h
    rw [hb]
    simp only [cond_false, mixL]
    by_cases h1 : j < i
    · rw [if_pos h1, if_pos (by omega)]
    · rw [if_neg h1, if_neg (by omega)]
theorem toInt64S_m {r : PH} {w : World} (hr : Fit r w) (xs : List Int) (S : Value) (hS : kInt.srd r S xs) (hl : xs.length ≤ 1048576) :
    Made Try.prog 9 [S] w fun v h => kInt.sown h v xs := by
  obtain ⟨A, c, rfl, hA⟩ := srd_int hS
  refine enterM Try.func9 rfl rfl [.a (.rs 1000 A xs.length c)] (fun _ => rfl) (Nat.le_of_ble_eq_true rfl) hr (GaOk.cons (k := 1000) hA (GaOk.nil r)) ?_
  repeat refine T_seq ?_
  refine T_region ?_
  refine RJ_run TT_ok rfl (by repeat (first | exact trivial | refine And.intro rfl ?_)) trivial ?_
  refine RJ_end ?_
  refine X_code ?_
  repeat refine T_seq ?_
  repeat refine T_seq ?_
  refine T_region ?_
  refine RJ_run TT_ok rfl (by repeat (first | exact trivial | refine And.intro rfl ?_)) trivial ?_
  refine RJ_make TT_ok 900 rfl rfl rfl rfl rfl rfl rfl rfl rfl (zs := [.int .i64 0]) rfl rfl (Nat.lt_of_sub_eq_succ rfl) (by simp only; omega) (by omega) rfl fun b => ?_
  refine RJ_run TT_ok rfl (by repeat (first | exact trivial | refine And.intro rfl ?_)) trivial ?_
  refine RJ_end ?_
  refine X_code ?_
  repeat refine T_seq ?_
  repeat refine T_seq ?_
  refine T_region ?_
  refine RJ_run TT_ok rfl (by repeat (first | exact trivial | refine And.intro rfl ?_)) trivial ?_
  refine RJ_end ?_
  refine X_code ?_
  repeat refine T_seq ?_
  repeat refine T_seq ?_
  refine T_block ?_
  refine T_loop (ι := Nat) (fun i => [(4, .a (.v (.int .i64 i))), (3, .a (.sl 900 (some ⟨b, 0, none⟩) xs.length xs.length)), (0, .a (.rs 1000 A xs.length c))]) (fun i => [(900, .arr (some ⟨b, 0, none⟩) xs.length xs.length 1 fun j => [.int .i64 (mixL xs 0 i j)])]) (fun i => i ≤ xs.length) (fun i => xs.length - i) 0 (Nat.zero_le _) (by repeat (first | exact trivial | refine And.intro rfl ?_)) ⟨⟨_, rfl, Ch.imp_arr fun j _ => by rw [mix_zero]⟩, trivial⟩ ?_
  intro i h1
  repeat refine T_seq ?_
  refine T_region ?_
  refine RJ_run TT_ok rfl (by repeat (first | exact trivial | refine And.intro rfl ?_)) trivial ?_
  refine RJ_end ?_
  refine X_code ?_
  repeat refine T_seq ?_
  repeat refine T_seq ?_
  refine T_cond rfl (fun e => ?_) (fun e => ?_)
  · have hi : i < xs.length := by simpa using e
    refine T_skip (X_code ?_)
    repeat refine T_seq ?_
    refine T_block ?_
    repeat refine T_seq ?_
    refine T_region ?_
    refine RJ_run TT_ok rfl (by repeat (first | exact trivial | refine And.intro rfl ?_)) ?_ ?_
    · simp only [GAlls, GO.p, InR]
      (repeat' (first | exact trivial | refine And.intro ?_ ?_ | refine fun _ => ?_)) <;> omega
    refine RJ_end ?_
    refine X_code ?_
    repeat refine T_seq ?_
    repeat refine T_seq ?_
    refine T_region ?_
    refine RJ_run TT_ok rfl (by repeat (first | exact trivial | refine And.intro rfl ?_)) ?_ ?_
    · simp only [GAlls, GO.p, InR]
      (repeat' (first | exact trivial | refine And.intro ?_ ?_ | refine fun _ => ?_)) <;> omega
    refine RJ_end ?_
    exact X_inv (i + 1) hi (by omega) (by repeat (first | exact trivial | refine And.intro rfl ?_)) ⟨⟨_, rfl, Ch.imp_arr fun j _ => mix_step (fun x => [Value.int .i64 x]) xs 0 i j⟩, trivial⟩
  · have hi : i = xs.length := by
      have : xs.length ≤ i := by simpa using e
      omega
    subst hi
    refine T_exit rfl (X_code ?_)
    repeat refine T_seq ?_
    refine T_region ?_
    refine RJ_run TT_ok rfl (by repeat (first | exact trivial | refine And.intro rfl ?_)) trivial ?_
    refine RJ_end ?_
    refine X_code ?_
    repeat refine T_seq ?_
    refine retM [2] rfl rfl 900 rfl fun B p s => ?_
    exact arr_sown Kd.flat_flat s rfl (by unfold maxL; omega) rfl fun i x hx => by rw [mix_all hx]
theorem beq_listI (xs ys : List Int) : (xs == ys) = true ↔ xs.length = ys.length ∧ ∀ j, j < xs.length → xs.getD j 0 = ys.getD j 0 := by
  rw [beq_iff_eq]
  refine ⟨fun h => by subst h; exact ⟨rfl, fun _ _ => rfl⟩, fun ⟨h1, h2⟩ => List.ext_getElem h1 fun i a b => by simpa [a, b] using h2 i a⟩
theorem eqInt64S_q {r : PH} {w : World} (hr : Fit r w) (xs ys : List Int) (S U : Value) (hS : kInt.srd r S xs) (hU : kInt.srd r U ys) :
    Ret Try.prog 11 [S, U] w (.bool (xs == ys)) := by
  have hl := Kd.srd_len hS
  unfold maxL at hl
  obtain ⟨A, c, rfl, hA⟩ := srd_int hS
  obtain ⟨A2, c2, rfl, hA2⟩ := srd_int hU
  refine enterQ Try.func11 rfl rfl [.a (.rs 1000 A xs.length c), .a (.rs 1001 A2 ys.length c2)] (fun _ => rfl) (Nat.le_of_ble_eq_true rfl) hr (GaOk.cons (k := 1000) hA (GaOk.cons (k := 1001) hA2 (GaOk.nil r))) ?_
  repeat refine T_seq ?_
  refine T_region ?_
  refine RJ_run TT_ok rfl (by repeat (first | exact trivial | refine And.intro rfl ?_)) trivial ?_
  refine RJ_end ?_
  refine X_code ?_
  repeat refine T_seq ?_
  repeat refine T_seq ?_
  refine T_region ?_
  refine RJ_run TT_ok rfl (by repeat (first | exact trivial | refine And.intro rfl ?_)) trivial ?_
  refine RJ_end ?_
  refine X_code ?_
  repeat refine T_seq ?_
  repeat refine T_seq ?_
  refine T_cond rfl (fun e => ?_) (fun e => ?_)
  · repeat refine T_seq ?_
    refine T_region ?_
    refine RJ_run TT_ok rfl (by repeat (first | exact trivial | refine And.intro rfl ?_)) trivial ?_
    refine RJ_end ?_
    refine X_code ?_
    repeat refine T_seq ?_
    refine retQ [4] rfl rfl fun _ => ?_
    have : (xs == ys) = false := by
      cases h : xs == ys with
      | false => rfl
      | true => exact absurd ((beq_listI xs ys).1 h).1 fun h => by rw [h] at e; simp at e
    rw [this]; rfl
  · have hlen : xs.length = ys.length := by
      have : (xs.length : Int) = ys.length := by simpa using e
      omega
    refine T_skip (X_code ?_)
    repeat refine T_seq ?_
    refine T_region ?_
    refine RJ_run TT_ok rfl (by repeat (first | exact trivial | refine And.intro rfl ?_)) trivial ?_
    refine RJ_end ?_
    refine X_code ?_
    repeat refine T_seq ?_
    repeat refine T_seq ?_
    refine T_block ?_
    refine T_loop (ι := Nat) (fun i => [(5, .a (.v (.int .i64 i))), (0, .a (.rs 1000 A xs.length c)), (1, .a (.rs 1001 A2 ys.length c2))]) (fun _ => []) (fun i => i ≤ xs.length ∧ ∀ j, j < i → xs.getD j 0 = ys.getD j 0) (fun i => xs.length - i) 0 ⟨Nat.zero_le _, fun j hj => absurd hj (Nat.not_lt_zero _)⟩ (by repeat (first | exact trivial | refine And.intro rfl ?_)) trivial ?_
    intro i ⟨h1, h2⟩
    repeat refine T_seq ?_
    refine T_region ?_
    refine RJ_run TT_ok rfl (by repeat (first | exact trivial | refine And.intro rfl ?_)) trivial ?_
    refine RJ_end ?_
    refine X_code ?_
    repeat refine T_seq ?_
    repeat refine T_seq ?_
    refine T_cond rfl (fun e => ?_) (fun e => ?_)
    · have hi : i < xs.length := by simpa using e
      refine T_skip (X_code ?_)
      repeat refine T_seq ?_
      refine T_block ?_
      repeat refine T_seq ?_
      refine T_draw [] 9 (by kernel_rfl) rfl rfl fun B0 H0 => ?_
      refine DJ_run TT_ok (pq_body _ _) [0,1,2,3,4,5,6,7,8] 0 (by kernel_rfl) rfl rfl rfl (by repeat (first | exact trivial | refine And.intro rfl ?_)) ?_ ?_
      · simp only [GAlls, GO.p, InR]
        (repeat' (first | exact trivial | refine And.intro ?_ ?_ | refine fun _ => ?_)) <;> omega
      refine DJ_end (by kernel_rfl) ?_
      refine X_code ?_
      repeat refine T_seq ?_
      repeat refine T_seq ?_
      refine T_cond rfl (fun e => ?_) (fun e => ?_)
      · repeat refine T_seq ?_
        refine T_region ?_
        refine RJ_run TT_ok rfl (by repeat (first | exact trivial | refine And.intro rfl ?_)) trivial ?_
        refine RJ_end ?_
        refine X_code ?_
        repeat refine T_seq ?_
        refine retQ [4] rfl rfl fun _ => ?_
        have : (xs == ys) = false := by
          cases h : xs == ys with
          | false => rfl
          | true => exact absurd (((beq_listI xs ys).1 h).2 i hi) (by simpa using e)
        rw [this]; rfl
      · refine T_skip (X_code ?_)
        repeat refine T_seq ?_
        refine T_region ?_
        refine RJ_run TT_ok rfl (by repeat (first | exact trivial | refine And.intro rfl ?_)) ?_ ?_
        · simp only [GAlls, GO.p, InR]
          (repeat' (first | exact trivial | refine And.intro ?_ ?_ | refine fun _ => ?_)) <;> omega
        refine RJ_end ?_
        exact X_inv (i + 1) ⟨hi, before_succ h2 (by simpa using e)⟩ (by omega) (by repeat (first | exact trivial | refine And.intro rfl ?_)) trivial
    · have hi : xs.length ≤ i := by simpa using e
      refine T_exit rfl (X_code ?_)
      repeat refine T_seq ?_
      refine T_region ?_
      refine RJ_run TT_ok rfl (by repeat (first | exact trivial | refine And.intro rfl ?_)) trivial ?_
      refine RJ_end ?_
      refine X_code ?_
      repeat refine T_seq ?_
      refine retQ [4] rfl rfl fun _ => ?_
      rw [(beq_listI xs ys).2 ⟨hlen, fun j hj => h2 j (by omega)⟩]; rfl
theorem exactDecide_q {r : PH} {w : World} (hr : Fit r w) (xs : List Int) (S : Value) (hS : kInt.srd r S xs) :
    Ret Try.prog 3 [S] w (.bool true) := by
  obtain ⟨A, c, rfl, hA⟩ := srd_int hS
  refine enterQ Try.func3 rfl rfl [.a (.v (.slice A xs.length c))] (fun _ => rfl) (Nat.le_of_ble_eq_true rfl) hr (GaOk.nil r) ?_
  repeat refine T_seq ?_
  refine T_region ?_
  refine RJ_run TT_ok rfl (by repeat (first | exact trivial | refine And.intro rfl ?_)) trivial ?_
  refine RJ_end ?_
  refine X_code ?_
  repeat refine T_seq ?_
  repeat refine T_seq ?_
  refine T_region ?_
  refine RJ_run TT_ok rfl (by repeat (first | exact trivial | refine And.intro rfl ?_)) trivial ?_
  refine RJ_end ?_
  refine X_code ?_
  repeat refine T_seq ?_
  repeat refine T_seq ?_
  refine T_cond rfl (fun e => ?_) (fun e => ?_)
  · repeat refine T_seq ?_
    refine T_region ?_
    refine RJ_run TT_ok rfl (by repeat (first | exact trivial | refine And.intro rfl ?_)) trivial ?_
    refine RJ_end ?_
    refine X_code ?_
    repeat refine T_seq ?_
    exact retQ [2] rfl rfl fun _ => rfl
  · have hl : xs.length ≤ 1048576 := by
      have : ¬ ((xs.length : Int) > 1048576) := by simpa using e
      omega
    refine T_skip (X_code ?_)
    repeat refine T_seq ?_
    refine T_region ?_
    refine RJ_run TT_ok rfl (by repeat (first | exact trivial | refine And.intro rfl ?_)) trivial ?_
    refine RJ_m 900 rfl rfl rfl rfl (enters_of Try.func9 (by kernel_rfl) rfl) rfl (fun B w' H m => toInt64S_m m.fitr xs _ hS hl) fun v => ?_
    refine RJ_run TT_ok rfl (by repeat (first | exact trivial | refine And.intro rfl ?_)) trivial ?_
    refine RJ_q rfl rfl rfl rfl (enters_of Try.func8 (by kernel_rfl) rfl) rfl (fun B w' H m => specDecide_q m.fitA xs _ (m.srd 900 rfl)) ?_
    refine RJ_run TT_ok rfl (by repeat (first | exact trivial | refine And.intro rfl ?_)) trivial ?_
    refine RJ_end ?_
    refine X_code ?_
    repeat refine T_seq ?_
    repeat refine T_seq ?_
    refine T_region ?_
    refine RJ_run TT_ok rfl (by repeat (first | exact trivial | refine And.intro rfl ?_)) trivial ?_
    refine RJ_m 901 rfl rfl rfl rfl (enters_of Try.func9 (by kernel_rfl) rfl) rfl (fun B w' H m => toInt64S_m m.fitr xs _ hS hl) fun v => ?_
    refine RJ_run TT_ok rfl (by repeat (first | exact trivial | refine And.intro rfl ?_)) trivial ?_
    refine RJ_end ?_
    refine X_code ?_
    repeat refine T_seq ?_
    repeat refine T_seq ?_
    refine T_region ?_
    refine RJ_run TT_ok rfl (by repeat (first | exact trivial | refine And.intro rfl ?_)) trivial ?_
    refine RJ_q rfl rfl rfl rfl (enters_of Try.func10 (by kernel_rfl) rfl) rfl (fun B w' H m => implDecideX_q m.fitA xs _ (m.srd 901 rfl)) ?_
    refine RJ_run TT_ok rfl (by repeat (first | exact trivial | refine And.intro rfl ?_)) trivial ?_
    refine RJ_end ?_
    refine X_code ?_
    repeat refine T_seq ?_
    repeat refine T_seq ?_
    refine T_region ?_
    refine RJ_run TT_ok rfl (by repeat (first | exact trivial | refine And.intro rfl ?_)) trivial ?_
    refine RJ_end ?_
    refine X_code ?_
    repeat refine T_seq ?_
    repeat refine T_seq ?_
    refine T_cond rfl (fun e => ?_) (fun e => ?_)
    · simp at e
    refine T_skip (X_code ?_)
    repeat refine T_seq ?_
    refine T_region ?_
    refine RJ_run TT_ok rfl (by repeat (first | exact trivial | refine And.intro rfl ?_)) trivial ?_
    refine RJ_m 902 rfl rfl rfl rfl (enters_of Try.func9 (by kernel_rfl) rfl) rfl (fun B w' H m => toInt64S_m m.fitr xs _ hS hl) fun v => ?_
    refine RJ_run TT_ok rfl (by repeat (first | exact trivial | refine And.intro rfl ?_)) trivial ?_
    refine RJ_q rfl rfl rfl rfl (enters_of Try.func11 (by kernel_rfl) rfl) rfl (fun B w' H m => eqInt64S_q m.fitA xs xs _ _ (m.srd 901 rfl) (m.srd 902 rfl)) ?_
    refine RJ_run TT_ok rfl (by repeat (first | exact trivial | refine And.intro rfl ?_)) trivial ?_
    refine RJ_end ?_
    refine X_code ?_
    repeat refine T_seq ?_
    repeat refine T_seq ?_
    refine T_cond rfl (fun e => ?_) (fun e => ?_)
    · simp at e
    refine T_skip (X_code ?_)
    repeat refine T_seq ?_
    refine T_region ?_
    refine RJ_run TT_ok rfl (by repeat (first | exact trivial | refine And.intro rfl ?_)) trivial ?_
    refine RJ_end ?_
    refine X_code ?_
    repeat refine T_seq ?_
    exact retQ [2] rfl rfl fun _ => rfl
end Go.Proofs.Ytiilpopeognekaa
