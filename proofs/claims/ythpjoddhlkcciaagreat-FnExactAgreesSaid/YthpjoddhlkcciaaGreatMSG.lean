/-
  Part G of what the claim leans on: memory, data, walks through the program, plain laws.
-/
import Derived.Test.YthpjoddhlkcciaaGreatMSF
namespace Go.Proofs.YthpjoddhlkcciaaGreat
open Go Go.RowKit
set_option linter.unusedVariables false
set_option linter.unusedSimpArgs false
set_option maxRecDepth 4000
theorem ord_get {xs : List RT} {i j : Nat} : ordI (xs.getD i zT).1.stamp (xs.getD j zT).1.stamp < 0 ↔ kT (xs.getD i zT) < kT (xs.getD j zT) := ord_lt
theorem srt_mono {xs : List RT} {a b : Nat} (h : srt kT iT zT xs a b) {i j : Nat} (h1 : a ≤ i) (h2 : i ≤ j) (h3 : j < b) : kT (xs.getD i zT) ≤ kT (xs.getD j zT) := by
  by_cases e : i = j
  · subst e; exact Int.le_refl _
  · exact lx_key (h i j h1 (by omega) h3)
set_option maxHeartbeats 1000000 in
theorem symMerge1_c (xs : List RT) (hl : xs.length ≤ 1048576) (a b : Nat) (h2 : a + 1 < b) (h3 : b ≤ xs.length) (s2 : srt kT iT zT xs (a + 1) b) (hlo : low iT zT xs a (a + 1) b) :
    Con Tryz.prog 194 [900] [.a (.g 900), vI a, vI ((a + 1 : Nat) : Int), vI b, cmpT] [(900, arrC 7 eT zT xs)] (fun ys : List RT => pm zT xs ys a b ∧ srt kT iT zT ys a b) (fun _ => []) fun ys => [(900, arrC 7 eT zT ys)] := by
  refine con_enter Tryz.func194 rfl rfl rfl fun B0 r_ D_ w0 => ?_
  refine T_auto TT_ok rfl ?_
  refine T_condE rfl (fun _ => ?_) (fun e => absurd (by omega) e)
  refine T_auto TT_ok rfl ?_
  refine T_loopA (ι := Nat × Nat) (fun y => [(10, vI y.1), (11, vI y.2)]) (fun _ => []) (fun y => (a + 1 ≤ y.1 ∧ y.1 ≤ y.2 ∧ y.2 ≤ b) ∧ (∀ k, a + 1 ≤ k → k < y.1 → kT (xs.getD k zT) < kT (xs.getD a zT)) ∧ ∀ k, y.2 ≤ k → k < b → ¬ kT (xs.getD k zT) < kT (xs.getD a zT)) (fun y => y.2 - y.1) (a + 1, b) [] [] rfl rfl ⟨⟨Nat.le_refl _, by dsimp only; omega, Nat.le_refl _⟩, fun k q1 q2 => by dsimp only at q2; omega, fun k q1 q2 => by dsimp only at q1; omega⟩ (by repeat (first | exact trivial | refine And.intro ⟨_, rfl, SV.imp_refl _⟩ ?_)) (by repeat (first | exact trivial | refine And.intro ⟨_, rfl, Ch.imp_refl _⟩ ?_)) ?_
  rintro ⟨i, j⟩ ⟨k1, k2, k3⟩
  dsimp only at k1 k2 k3 ⊢
  refine T_auto TT_ok rfl ?_
  refine T_condD rfl (fun e => ?_) (fun e => ?_)
  · have hij : i < j := by omega
    have hh : (((i : Int) + j) / 2).toNat = (i + j) / 2 := by omega
    refine T_auto TT_ok rfl ?_
    refine T_drawA TT_ok [] rfl rfl fun B0 H0 => ?_
    refine DJ_one 9 rfl (by kernel_rfl) (OJ_F rfl rfl rfl ⟨(xs.getD (((i : Int) + j) / 2).toNat zT, xs.getD (a : Int).toNat zT), rfl, rfl⟩ (SJ_dj ?_))
    refine DJ_on TT_ok rfl ?_
    refine DJ_endA TT_ok rfl ?_
    rw [hh]
    refine T_condD rfl (fun e2 => ?_) (fun e2 => ?_)
    · have e2 : kT (xs.getD ((i + j) / 2) zT) < kT (xs.getD a zT) := ord_get.1 e2
      refine T_auto TT_ok rfl ?_
      refine X_inv ((i + j) / 2 + 1, j) ⟨⟨by dsimp only; omega, by dsimp only; omega, k1.2.2⟩, fun k q1 q2 => ?_, k3⟩ (by show j - ((i + j) / 2 + 1) < j - i; omega) ⟨⟨_, rfl, SV.imp_of (vI_eq (by dsimp only; omega))⟩, ⟨_, rfl, SV.imp_refl _⟩, (by repeat (first | exact trivial | refine And.intro ⟨_, rfl, SV.imp_refl _⟩ ?_))⟩ (by repeat (first | exact trivial | refine And.intro ⟨_, rfl, Ch.imp_refl _⟩ ?_))
      dsimp only at q2
      have := srt_mono s2 q1 (show k ≤ (i + j) / 2 by omega) (by omega)
      omega
    · have e2 : ¬ kT (xs.getD ((i + j) / 2) zT) < kT (xs.getD a zT) := fun h => e2 (ord_get.2 h)
      refine T_auto TT_ok rfl ?_
      refine X_inv (i, (i + j) / 2) ⟨⟨k1.1, by dsimp only; omega, by dsimp only; omega⟩, k2, fun k q1 q2 => ?_⟩ (by show (i + j) / 2 - i < j - i; omega) ⟨⟨_, rfl, SV.imp_refl _⟩, ⟨_, rfl, SV.imp_of (vI_eq (by dsimp only; omega))⟩, (by repeat (first | exact trivial | refine And.intro ⟨_, rfl, SV.imp_refl _⟩ ?_))⟩ (by repeat (first | exact trivial | refine And.intro ⟨_, rfl, Ch.imp_refl _⟩ ?_))
      dsimp only at q1
      have := srt_mono s2 (show a + 1 ≤ (i + j) / 2 by omega) q1 q2
      omega
  have hij : j = i := by omega
  subst hij
  refine T_auto TT_ok rfl ?_
  refine T_loopA (ι := Nat × List RT) (fun s => [(13, vI s.1)]) (fun s => [(900, arrC 7 eT zT s.2)]) (fun s => (a ≤ s.1 ∧ s.1 + 1 ≤ j) ∧ isRot zT xs s.2 a (a + 1) (s.1 + 1)) (fun s => j - s.1) (a, xs) [900] [] rfl rfl ⟨⟨Nat.le_refl _, k1.1⟩, rot_one⟩ (by repeat (first | exact trivial | refine And.intro ⟨_, rfl, SV.imp_refl _⟩ ?_)) (by repeat (first | exact trivial | refine And.intro ⟨_, rfl, Ch.imp_refl _⟩ ?_)) ?_
  rintro ⟨k, ys⟩ ⟨l1, l2⟩
  have hlen := l2.pm.len
  dsimp only at l1 l2 hlen ⊢
  refine T_auto TT_ok rfl ?_
  refine T_condD rfl (fun e => ?_) (fun e => ?_)
  · have hk : k + 1 < j := by omega
    refine T_auto TT_ok rfl ?_
    have hsw : (Ch.arr 7 (ys.set ((k : Int)).toNat (ys.getD ((k : Int) + 1).toNat zT)).length fun q => bif Nat.beq q ((k : Int) + 1).toNat then eT (ys.getD ((k : Int)).toNat zT) else eT ((ys.set ((k : Int)).toNat (ys.getD ((k : Int) + 1).toNat zT)).getD q zT)).imp (arrC 7 eT zT (swp zT ys k (k + 1))) := imp_set (y := ys.getD k zT) (OwnI.refl _)
    refine T_drawL TT_ok [900] [0, 1, 2, 3, 4, 5, 6, 7, 10, 11, 8, 9, 12, 13, 14, 15, 16, 17] rfl rfl fun B0 H0 => ?_
    refine DJ_two 8 12 rfl rfl (by kernel_rfl) (OJ_pst TT_ok rfl rfl rfl (SJ_dj ?_)) (OJ_pst TT_ok rfl rfl rfl (SJ_dj ?_))
    · refine DJ_two 9 12 rfl rfl (by kernel_rfl) (OJ_pst TT_ok rfl rfl rfl (SJ_dj ?_)) (OJ_pst TT_ok rfl rfl rfl (SJ_dj ?_))
      · refine DJ_one 12 rfl (by kernel_rfl) (OJ_pst TT_ok rfl rfl rfl (SJ_dj ?_))
        refine DJ_one 13 rfl (by kernel_rfl) (OJ_pst TT_ok rfl rfl rfl (SJ_dj ?_))
        (refine DJ_one 14 rfl (by kernel_rfl) (OJ_pst TT_ok rfl rfl rfl (SJ_dj ?_)); refine DJ_one 15 rfl (by kernel_rfl) (OJ_M TT_ok rfl rfl rfl rfl rfl rfl (SJ_dj ?_)); refine DJ_imp 900 rfl (imp_set (y := ys.getD ((k : Int) + 1).toNat zT) (OwnI.refl _)) rfl ?_; refine DJ_one 16 rfl (by kernel_rfl) (OJ_pst TT_ok rfl rfl rfl (SJ_dj ?_)); refine DJ_one 17 rfl (by kernel_rfl) (OJ_M TT_ok rfl rfl rfl rfl rfl rfl (SJ_dj ?_)); refine DJ_endA TT_ok rfl ?_; exact X_inv (k + 1, swp zT ys k (k + 1)) ⟨⟨by dsimp only; omega, by dsimp only; omega⟩, rot_step1 l2 l1.1 (by omega)⟩ (by show j - (k + 1) < j - k; omega) (by repeat (first | exact trivial | refine And.intro ⟨_, rfl, SV.imp_refl _⟩ ?_)) ⟨⟨_, rfl, hsw⟩, (by repeat (first | exact trivial | refine And.intro ⟨_, rfl, Ch.imp_refl _⟩ ?_))⟩)
      · refine DJ_two 9 13 rfl rfl (by kernel_rfl) (OJ_pst TT_ok rfl rfl rfl (SJ_dj ?_)) (OJ_pst TT_ok rfl rfl rfl (SJ_dj ?_))
        · refine DJ_one 13 rfl (by kernel_rfl) (OJ_pst TT_ok rfl rfl rfl (SJ_dj ?_))
          (refine DJ_one 14 rfl (by kernel_rfl) (OJ_pst TT_ok rfl rfl rfl (SJ_dj ?_)); refine DJ_one 15 rfl (by kernel_rfl) (OJ_M TT_ok rfl rfl rfl rfl rfl rfl (SJ_dj ?_)); refine DJ_imp 900 rfl (imp_set (y := ys.getD ((k : Int) + 1).toNat zT) (OwnI.refl _)) rfl ?_; refine DJ_one 16 rfl (by kernel_rfl) (OJ_pst TT_ok rfl rfl rfl (SJ_dj ?_)); refine DJ_one 17 rfl (by kernel_rfl) (OJ_M TT_ok rfl rfl rfl rfl rfl rfl (SJ_dj ?_)); refine DJ_endA TT_ok rfl ?_; exact X_inv (k + 1, swp zT ys k (k + 1)) ⟨⟨by dsimp only; omega, by dsimp only; omega⟩, rot_step1 l2 l1.1 (by omega)⟩ (by show j - (k + 1) < j - k; omega) (by repeat (first | exact trivial | refine And.intro ⟨_, rfl, SV.imp_refl _⟩ ?_)) ⟨⟨_, rfl, hsw⟩, (by repeat (first | exact trivial | refine And.intro ⟨_, rfl, Ch.imp_refl _⟩ ?_))⟩)
        · refine DJ_one 9 rfl (by kernel_rfl) (OJ_pst TT_ok rfl rfl rfl (SJ_dj ?_))
          (refine DJ_one 14 rfl (by kernel_rfl) (OJ_pst TT_ok rfl rfl rfl (SJ_dj ?_)); refine DJ_one 15 rfl (by kernel_rfl) (OJ_M TT_ok rfl rfl rfl rfl rfl rfl (SJ_dj ?_)); refine DJ_imp 900 rfl (imp_set (y := ys.getD ((k : Int) + 1).toNat zT) (OwnI.refl _)) rfl ?_; refine DJ_one 16 rfl (by kernel_rfl) (OJ_pst TT_ok rfl rfl rfl (SJ_dj ?_)); refine DJ_one 17 rfl (by kernel_rfl) (OJ_M TT_ok rfl rfl rfl rfl rfl rfl (SJ_dj ?_)); refine DJ_endA TT_ok rfl ?_; exact X_inv (k + 1, swp zT ys k (k + 1)) ⟨⟨by dsimp only; omega, by dsimp only; omega⟩, rot_step1 l2 l1.1 (by omega)⟩ (by show j - (k + 1) < j - k; omega) (by repeat (first | exact trivial | refine And.intro ⟨_, rfl, SV.imp_refl _⟩ ?_)) ⟨⟨_, rfl, hsw⟩, (by repeat (first | exact trivial | refine And.intro ⟨_, rfl, Ch.imp_refl _⟩ ?_))⟩)
    · refine DJ_two 8 13 rfl rfl (by kernel_rfl) (OJ_pst TT_ok rfl rfl rfl (SJ_dj ?_)) (OJ_pst TT_ok rfl rfl rfl (SJ_dj ?_))
      · refine DJ_two 9 13 rfl rfl (by kernel_rfl) (OJ_pst TT_ok rfl rfl rfl (SJ_dj ?_)) (OJ_pst TT_ok rfl rfl rfl (SJ_dj ?_))
        · refine DJ_one 13 rfl (by kernel_rfl) (OJ_pst TT_ok rfl rfl rfl (SJ_dj ?_))
          (refine DJ_one 14 rfl (by kernel_rfl) (OJ_pst TT_ok rfl rfl rfl (SJ_dj ?_)); refine DJ_one 15 rfl (by kernel_rfl) (OJ_M TT_ok rfl rfl rfl rfl rfl rfl (SJ_dj ?_)); refine DJ_imp 900 rfl (imp_set (y := ys.getD ((k : Int) + 1).toNat zT) (OwnI.refl _)) rfl ?_; refine DJ_one 16 rfl (by kernel_rfl) (OJ_pst TT_ok rfl rfl rfl (SJ_dj ?_)); refine DJ_one 17 rfl (by kernel_rfl) (OJ_M TT_ok rfl rfl rfl rfl rfl rfl (SJ_dj ?_)); refine DJ_endA TT_ok rfl ?_; exact X_inv (k + 1, swp zT ys k (k + 1)) ⟨⟨by dsimp only; omega, by dsimp only; omega⟩, rot_step1 l2 l1.1 (by omega)⟩ (by show j - (k + 1) < j - k; omega) (by repeat (first | exact trivial | refine And.intro ⟨_, rfl, SV.imp_refl _⟩ ?_)) ⟨⟨_, rfl, hsw⟩, (by repeat (first | exact trivial | refine And.intro ⟨_, rfl, Ch.imp_refl _⟩ ?_))⟩)
        · refine DJ_one 9 rfl (by kernel_rfl) (OJ_pst TT_ok rfl rfl rfl (SJ_dj ?_))
          (refine DJ_one 14 rfl (by kernel_rfl) (OJ_pst TT_ok rfl rfl rfl (SJ_dj ?_)); refine DJ_one 15 rfl (by kernel_rfl) (OJ_M TT_ok rfl rfl rfl rfl rfl rfl (SJ_dj ?_)); refine DJ_imp 900 rfl (imp_set (y := ys.getD ((k : Int) + 1).toNat zT) (OwnI.refl _)) rfl ?_; refine DJ_one 16 rfl (by kernel_rfl) (OJ_pst TT_ok rfl rfl rfl (SJ_dj ?_)); refine DJ_one 17 rfl (by kernel_rfl) (OJ_M TT_ok rfl rfl rfl rfl rfl rfl (SJ_dj ?_)); refine DJ_endA TT_ok rfl ?_; exact X_inv (k + 1, swp zT ys k (k + 1)) ⟨⟨by dsimp only; omega, by dsimp only; omega⟩, rot_step1 l2 l1.1 (by omega)⟩ (by show j - (k + 1) < j - k; omega) (by repeat (first | exact trivial | refine And.intro ⟨_, rfl, SV.imp_refl _⟩ ?_)) ⟨⟨_, rfl, hsw⟩, (by repeat (first | exact trivial | refine And.intro ⟨_, rfl, Ch.imp_refl _⟩ ?_))⟩)
      · refine DJ_one 8 rfl (by kernel_rfl) (OJ_pst TT_ok rfl rfl rfl (SJ_dj ?_))
        refine DJ_one 9 rfl (by kernel_rfl) (OJ_pst TT_ok rfl rfl rfl (SJ_dj ?_))
        (refine DJ_one 14 rfl (by kernel_rfl) (OJ_pst TT_ok rfl rfl rfl (SJ_dj ?_)); refine DJ_one 15 rfl (by kernel_rfl) (OJ_M TT_ok rfl rfl rfl rfl rfl rfl (SJ_dj ?_)); refine DJ_imp 900 rfl (imp_set (y := ys.getD ((k : Int) + 1).toNat zT) (OwnI.refl _)) rfl ?_; refine DJ_one 16 rfl (by kernel_rfl) (OJ_pst TT_ok rfl rfl rfl (SJ_dj ?_)); refine DJ_one 17 rfl (by kernel_rfl) (OJ_M TT_ok rfl rfl rfl rfl rfl rfl (SJ_dj ?_)); refine DJ_endA TT_ok rfl ?_; exact X_inv (k + 1, swp zT ys k (k + 1)) ⟨⟨by dsimp only; omega, by dsimp only; omega⟩, rot_step1 l2 l1.1 (by omega)⟩ (by show j - (k + 1) < j - k; omega) (by repeat (first | exact trivial | refine And.intro ⟨_, rfl, SV.imp_refl _⟩ ?_)) ⟨⟨_, rfl, hsw⟩, (by repeat (first | exact trivial | refine And.intro ⟨_, rfl, Ch.imp_refl _⟩ ?_))⟩)
  · have hk : k + 1 = j := by omega
    subst hk
    refine T_auto TT_ok rfl ?_
    refine T_ret TT_ok (ys) [] rfl rfl ?_ ?_ ?_
    · exact SVs.imp_refl _
    · exact ⟨⟨_, rfl, Ch.imp_refl _⟩, trivial⟩
    · exact ⟨l2.pm.sub (Nat.le_refl _) (by omega), base1 (by omega) (by omega) s2 hlo k2 k3 l2⟩
end Go.Proofs.YthpjoddhlkcciaaGreat
namespace Go.Proofs.YthpjoddhlkcciaaGreat
open Go Go.RowKit
set_option linter.unusedVariables false
set_option linter.unusedSimpArgs false
set_option maxRecDepth 4000
set_option maxHeartbeats 1000000 in
theorem symMerge2_c (xs : List RT) (hl : xs.length ≤ 1048576) (a m : Nat) (h1 : a < m) (hne : ¬ m = a + 1) (h3 : m + 1 ≤ xs.length) (s1 : srt kT iT zT xs a m) (hlo : low iT zT xs a m (m + 1)) :
    Con Tryz.prog 194 [900] [.a (.g 900), vI a, vI m, vI ((m + 1 : Nat) : Int), cmpT] [(900, arrC 7 eT zT xs)] (fun ys : List RT => pm zT xs ys a (m + 1) ∧ srt kT iT zT ys a (m + 1)) (fun _ => []) fun ys => [(900, arrC 7 eT zT ys)] := by
  refine con_enter Tryz.func194 rfl rfl rfl fun B0 r_ D_ w0 => ?_
  refine T_auto TT_ok rfl ?_
  refine T_condE rfl (fun e => absurd e (by omega)) (fun _ => ?_)
  refine T_auto TT_ok rfl ?_
  refine T_condE rfl (fun _ => ?_) (fun e => absurd (by omega) e)
  refine T_auto TT_ok rfl ?_
  refine T_loopA (ι := Nat × Nat) (fun y => [(14, vI y.1), (15, vI y.2)]) (fun _ => []) (fun y => (a ≤ y.1 ∧ y.1 ≤ y.2 ∧ y.2 ≤ m) ∧ (∀ k, a ≤ k → k < y.1 → ¬ kT (xs.getD m zT) < kT (xs.getD k zT)) ∧ ∀ k, y.2 ≤ k → k < m → kT (xs.getD m zT) < kT (xs.getD k zT)) (fun y => y.2 - y.1) (a, m) [] [] rfl rfl ⟨⟨Nat.le_refl _, by dsimp only; omega, Nat.le_refl _⟩, fun k q1 q2 => by dsimp only at q2; omega, fun k q1 q2 => by dsimp only at q1; omega⟩ (by repeat (first | exact trivial | refine And.intro ⟨_, rfl, SV.imp_refl _⟩ ?_)) (by repeat (first | exact trivial | refine And.intro ⟨_, rfl, Ch.imp_refl _⟩ ?_)) ?_
  rintro ⟨i, j⟩ ⟨k1, k2, k3⟩
  dsimp only at k1 k2 k3 ⊢
  refine T_auto TT_ok rfl ?_
  refine T_condD rfl (fun e => ?_) (fun e => ?_)
  · have hij : i < j := by omega
    have hh : (((i : Int) + j) / 2).toNat = (i + j) / 2 := by omega
    refine T_auto TT_ok rfl ?_
    refine T_drawA TT_ok [] rfl rfl fun B0 H0 => ?_
    refine DJ_one 9 rfl (by kernel_rfl) (OJ_F rfl rfl rfl ⟨(xs.getD (m : Int).toNat zT, xs.getD (((i : Int) + j) / 2).toNat zT), rfl, rfl⟩ (SJ_dj ?_))
    refine DJ_on TT_ok rfl ?_
    refine DJ_endA TT_ok rfl ?_
    rw [hh]
    refine T_cond (b := !decide (ordI (xs.getD m zT).1.stamp (xs.getD ((i + j) / 2) zT).1.stamp < 0)) rfl (fun e2 => ?_) (fun e2 => ?_)
    · have e2 : ¬ kT (xs.getD m zT) < kT (xs.getD ((i + j) / 2) zT) := fun h => by rw [decide_eq_true (ord_get.2 h)] at e2; cases e2
      refine T_auto TT_ok rfl ?_
      refine X_inv ((i + j) / 2 + 1, j) ⟨⟨by dsimp only; omega, by dsimp only; omega, k1.2.2⟩, fun k q1 q2 => ?_, k3⟩ (by show j - ((i + j) / 2 + 1) < j - i; omega) ⟨⟨_, rfl, SV.imp_of (vI_eq (by dsimp only; omega))⟩, ⟨_, rfl, SV.imp_refl _⟩, (by repeat (first | exact trivial | refine And.intro ⟨_, rfl, SV.imp_refl _⟩ ?_))⟩ (by repeat (first | exact trivial | refine And.intro ⟨_, rfl, Ch.imp_refl _⟩ ?_))
      dsimp only at q2
      have := srt_mono s1 q1 (show k ≤ (i + j) / 2 by omega) (by omega)
      omega
    · have e2 : kT (xs.getD m zT) < kT (xs.getD ((i + j) / 2) zT) := ord_get.1 (of_decide_eq_true (by simpa using e2))
      refine T_auto TT_ok rfl ?_
      refine X_inv (i, (i + j) / 2) ⟨⟨k1.1, by dsimp only; omega, by dsimp only; omega⟩, k2, fun k q1 q2 => ?_⟩ (by show (i + j) / 2 - i < j - i; omega) ⟨⟨_, rfl, SV.imp_refl _⟩, ⟨_, rfl, SV.imp_of (vI_eq (by dsimp only; omega))⟩, (by repeat (first | exact trivial | refine And.intro ⟨_, rfl, SV.imp_refl _⟩ ?_))⟩ (by repeat (first | exact trivial | refine And.intro ⟨_, rfl, Ch.imp_refl _⟩ ?_))
      dsimp only at q1
      have := srt_mono s1 (show a ≤ (i + j) / 2 by omega) q1 q2
      omega
  have hij : j = i := by omega
  subst hij
  refine T_auto TT_ok rfl ?_
  refine T_loopA (ι := Nat × List RT) (fun s => [(17, vI s.1)]) (fun s => [(900, arrC 7 eT zT s.2)]) (fun s => (j ≤ s.1 ∧ s.1 ≤ m) ∧ isRot zT xs s.2 s.1 m (m + 1)) (fun s => s.1) (m, xs) [900] [] rfl rfl ⟨⟨k1.2.2, Nat.le_refl _⟩, rot_none⟩ (by repeat (first | exact trivial | refine And.intro ⟨_, rfl, SV.imp_refl _⟩ ?_)) (by repeat (first | exact trivial | refine And.intro ⟨_, rfl, Ch.imp_refl _⟩ ?_)) ?_
  rintro ⟨k, ys⟩ ⟨l1, l2⟩
  have hlen := l2.pm.len
  dsimp only at l1 l2 hlen ⊢
  refine T_auto TT_ok rfl ?_
  refine T_condD rfl (fun e => ?_) (fun e => ?_)
  · have hk : j < k := by omega
    refine T_auto TT_ok rfl ?_
    have hsw : (Ch.arr 7 (ys.set ((k : Int)).toNat (ys.getD ((k : Int) - 1).toNat zT)).length fun q => bif Nat.beq q ((k : Int) - 1).toNat then eT (ys.getD ((k : Int)).toNat zT) else eT ((ys.set ((k : Int)).toNat (ys.getD ((k : Int) - 1).toNat zT)).getD q zT)).imp (arrC 7 eT zT (swp zT ys k (k - 1))) := by
      rw [show ((k : Int) - 1).toNat = k - 1 by omega]
      exact imp_set (y := ys.getD k zT) (OwnI.refl _)
    refine T_drawL TT_ok [900] [0, 1, 2, 3, 4, 5, 6, 7, 10, 11, 8, 9, 12, 13, 14, 15, 16, 17] rfl rfl fun B0 H0 => ?_
    refine DJ_two 8 12 rfl rfl (by kernel_rfl) (OJ_pst TT_ok rfl rfl rfl (SJ_dj ?_)) (OJ_pst TT_ok rfl rfl rfl (SJ_dj ?_))
    · refine DJ_two 9 12 rfl rfl (by kernel_rfl) (OJ_pst TT_ok rfl rfl rfl (SJ_dj ?_)) (OJ_pst TT_ok rfl rfl rfl (SJ_dj ?_))
      · refine DJ_one 12 rfl (by kernel_rfl) (OJ_pst TT_ok rfl rfl rfl (SJ_dj ?_))
        refine DJ_one 13 rfl (by kernel_rfl) (OJ_pst TT_ok rfl rfl rfl (SJ_dj ?_))
        (refine DJ_one 14 rfl (by kernel_rfl) (OJ_pst TT_ok rfl rfl rfl (SJ_dj ?_)); refine DJ_one 15 rfl (by kernel_rfl) (OJ_M TT_ok rfl rfl rfl rfl rfl rfl (SJ_dj ?_)); refine DJ_imp 900 rfl (imp_set (y := ys.getD ((k : Int) - 1).toNat zT) (OwnI.refl _)) rfl ?_; refine DJ_one 16 rfl (by kernel_rfl) (OJ_pst TT_ok rfl rfl rfl (SJ_dj ?_)); refine DJ_one 17 rfl (by kernel_rfl) (OJ_M TT_ok rfl rfl rfl rfl rfl rfl (SJ_dj ?_)); refine DJ_endA TT_ok rfl ?_; exact X_inv (k - 1, swp zT ys k (k - 1)) ⟨⟨by dsimp only; omega, by dsimp only; omega⟩, rot_step2 l2 (by omega) l1.2 (by omega)⟩ (by show k - 1 < k; omega) ⟨⟨_, rfl, SV.imp_of (vI_eq (by dsimp only; omega))⟩, (by repeat (first | exact trivial | refine And.intro ⟨_, rfl, SV.imp_refl _⟩ ?_))⟩ ⟨⟨_, rfl, hsw⟩, (by repeat (first | exact trivial | refine And.intro ⟨_, rfl, Ch.imp_refl _⟩ ?_))⟩)
      · refine DJ_two 9 13 rfl rfl (by kernel_rfl) (OJ_pst TT_ok rfl rfl rfl (SJ_dj ?_)) (OJ_pst TT_ok rfl rfl rfl (SJ_dj ?_))
        · refine DJ_one 13 rfl (by kernel_rfl) (OJ_pst TT_ok rfl rfl rfl (SJ_dj ?_))
          (refine DJ_one 14 rfl (by kernel_rfl) (OJ_pst TT_ok rfl rfl rfl (SJ_dj ?_)); refine DJ_one 15 rfl (by kernel_rfl) (OJ_M TT_ok rfl rfl rfl rfl rfl rfl (SJ_dj ?_)); refine DJ_imp 900 rfl (imp_set (y := ys.getD ((k : Int) - 1).toNat zT) (OwnI.refl _)) rfl ?_; refine DJ_one 16 rfl (by kernel_rfl) (OJ_pst TT_ok rfl rfl rfl (SJ_dj ?_)); refine DJ_one 17 rfl (by kernel_rfl) (OJ_M TT_ok rfl rfl rfl rfl rfl rfl (SJ_dj ?_)); refine DJ_endA TT_ok rfl ?_; exact X_inv (k - 1, swp zT ys k (k - 1)) ⟨⟨by dsimp only; omega, by dsimp only; omega⟩, rot_step2 l2 (by omega) l1.2 (by omega)⟩ (by show k - 1 < k; omega) ⟨⟨_, rfl, SV.imp_of (vI_eq (by dsimp only; omega))⟩, (by repeat (first | exact trivial | refine And.intro ⟨_, rfl, SV.imp_refl _⟩ ?_))⟩ ⟨⟨_, rfl, hsw⟩, (by repeat (first | exact trivial | refine And.intro ⟨_, rfl, Ch.imp_refl _⟩ ?_))⟩)
        · refine DJ_one 9 rfl (by kernel_rfl) (OJ_pst TT_ok rfl rfl rfl (SJ_dj ?_))
          (refine DJ_one 14 rfl (by kernel_rfl) (OJ_pst TT_ok rfl rfl rfl (SJ_dj ?_)); refine DJ_one 15 rfl (by kernel_rfl) (OJ_M TT_ok rfl rfl rfl rfl rfl rfl (SJ_dj ?_)); refine DJ_imp 900 rfl (imp_set (y := ys.getD ((k : Int) - 1).toNat zT) (OwnI.refl _)) rfl ?_; refine DJ_one 16 rfl (by kernel_rfl) (OJ_pst TT_ok rfl rfl rfl (SJ_dj ?_)); refine DJ_one 17 rfl (by kernel_rfl) (OJ_M TT_ok rfl rfl rfl rfl rfl rfl (SJ_dj ?_)); refine DJ_endA TT_ok rfl ?_; exact X_inv (k - 1, swp zT ys k (k - 1)) ⟨⟨by dsimp only; omega, by dsimp only; omega⟩, rot_step2 l2 (by omega) l1.2 (by omega)⟩ (by show k - 1 < k; omega) ⟨⟨_, rfl, SV.imp_of (vI_eq (by dsimp only; omega))⟩, (by repeat (first | exact trivial | refine And.intro ⟨_, rfl, SV.imp_refl _⟩ ?_))⟩ ⟨⟨_, rfl, hsw⟩, (by repeat (first | exact trivial | refine And.intro ⟨_, rfl, Ch.imp_refl _⟩ ?_))⟩)
    · refine DJ_two 8 13 rfl rfl (by kernel_rfl) (OJ_pst TT_ok rfl rfl rfl (SJ_dj ?_)) (OJ_pst TT_ok rfl rfl rfl (SJ_dj ?_))
      · refine DJ_two 9 13 rfl rfl (by kernel_rfl) (OJ_pst TT_ok rfl rfl rfl (SJ_dj ?_)) (OJ_pst TT_ok rfl rfl rfl (SJ_dj ?_))
        · refine DJ_one 13 rfl (by kernel_rfl) (OJ_pst TT_ok rfl rfl rfl (SJ_dj ?_))
          (refine DJ_one 14 rfl (by kernel_rfl) (OJ_pst TT_ok rfl rfl rfl (SJ_dj ?_)); refine DJ_one 15 rfl (by kernel_rfl) (OJ_M TT_ok rfl rfl rfl rfl rfl rfl (SJ_dj ?_)); refine DJ_imp 900 rfl (imp_set (y := ys.getD ((k : Int) - 1).toNat zT) (OwnI.refl _)) rfl ?_; refine DJ_one 16 rfl (by kernel_rfl) (OJ_pst TT_ok rfl rfl rfl (SJ_dj ?_)); refine DJ_one 17 rfl (by kernel_rfl) (OJ_M TT_ok rfl rfl rfl rfl rfl rfl (SJ_dj ?_)); refine DJ_endA TT_ok rfl ?_; exact X_inv (k - 1, swp zT ys k (k - 1)) ⟨⟨by dsimp only; omega, by dsimp only; omega⟩, rot_step2 l2 (by omega) l1.2 (by omega)⟩ (by show k - 1 < k; omega) ⟨⟨_, rfl, SV.imp_of (vI_eq (by dsimp only; omega))⟩, (by repeat (first | exact trivial | refine And.intro ⟨_, rfl, SV.imp_refl _⟩ ?_))⟩ ⟨⟨_, rfl, hsw⟩, (by repeat (first | exact trivial | refine And.intro ⟨_, rfl, Ch.imp_refl _⟩ ?_))⟩)
        · refine DJ_one 9 rfl (by kernel_rfl) (OJ_pst TT_ok rfl rfl rfl (SJ_dj ?_))
          (refine DJ_one 14 rfl (by kernel_rfl) (OJ_pst TT_ok rfl rfl rfl (SJ_dj ?_)); refine DJ_one 15 rfl (by kernel_rfl) (OJ_M TT_ok rfl rfl rfl rfl rfl rfl (SJ_dj ?_)); refine DJ_imp 900 rfl (imp_set (y := ys.getD ((k : Int) - 1).toNat zT) (OwnI.refl _)) rfl ?_; refine DJ_one 16 rfl (by kernel_rfl) (OJ_pst TT_ok rfl rfl rfl (SJ_dj ?_)); refine DJ_one 17 rfl (by kernel_rfl) (OJ_M TT_ok rfl rfl rfl rfl rfl rfl (SJ_dj ?_)); refine DJ_endA TT_ok rfl ?_; exact X_inv (k - 1, swp zT ys k (k - 1)) ⟨⟨by dsimp only; omega, by dsimp only; omega⟩, rot_step2 l2 (by omega) l1.2 (by omega)⟩ (by show k - 1 < k; omega) ⟨⟨_, rfl, SV.imp_of (vI_eq (by dsimp only; omega))⟩, (by repeat (first | exact trivial | refine And.intro ⟨_, rfl, SV.imp_refl _⟩ ?_))⟩ ⟨⟨_, rfl, hsw⟩, (by repeat (first | exact trivial | refine And.intro ⟨_, rfl, Ch.imp_refl _⟩ ?_))⟩)
      · refine DJ_one 8 rfl (by kernel_rfl) (OJ_pst TT_ok rfl rfl rfl (SJ_dj ?_))
        refine DJ_one 9 rfl (by kernel_rfl) (OJ_pst TT_ok rfl rfl rfl (SJ_dj ?_))
        (refine DJ_one 14 rfl (by kernel_rfl) (OJ_pst TT_ok rfl rfl rfl (SJ_dj ?_)); refine DJ_one 15 rfl (by kernel_rfl) (OJ_M TT_ok rfl rfl rfl rfl rfl rfl (SJ_dj ?_)); refine DJ_imp 900 rfl (imp_set (y := ys.getD ((k : Int) - 1).toNat zT) (OwnI.refl _)) rfl ?_; refine DJ_one 16 rfl (by kernel_rfl) (OJ_pst TT_ok rfl rfl rfl (SJ_dj ?_)); refine DJ_one 17 rfl (by kernel_rfl) (OJ_M TT_ok rfl rfl rfl rfl rfl rfl (SJ_dj ?_)); refine DJ_endA TT_ok rfl ?_; exact X_inv (k - 1, swp zT ys k (k - 1)) ⟨⟨by dsimp only; omega, by dsimp only; omega⟩, rot_step2 l2 (by omega) l1.2 (by omega)⟩ (by show k - 1 < k; omega) ⟨⟨_, rfl, SV.imp_of (vI_eq (by dsimp only; omega))⟩, (by repeat (first | exact trivial | refine And.intro ⟨_, rfl, SV.imp_refl _⟩ ?_))⟩ ⟨⟨_, rfl, hsw⟩, (by repeat (first | exact trivial | refine And.intro ⟨_, rfl, Ch.imp_refl _⟩ ?_))⟩)
  · have hk : k = j := by omega
    subst hk
    refine T_auto TT_ok rfl ?_
    refine T_ret TT_ok (ys) [] rfl rfl ?_ ?_ ?_
    · exact SVs.imp_refl _
    · exact ⟨⟨_, rfl, Ch.imp_refl _⟩, trivial⟩
    · exact ⟨l2.pm.sub k1.1 (Nat.le_refl _), base2 k1.1 k1.2.2 s1 hlo k2 k3 l2⟩
end Go.Proofs.YthpjoddhlkcciaaGreat
namespace Go.Proofs.YthpjoddhlkcciaaGreat
open Go Go.RowKit
set_option linter.unusedVariables false
set_option linter.unusedSimpArgs false
set_option maxRecDepth 4000
theorem rot_triv {xs : List RT} {s m e : Nat} (h : s = m ∨ m = e) : isRot zT xs xs s m e := by
  refine ⟨pm.refl _ _ _, fun k hk => ?_, fun k hk => ?_⟩
  · rcases h with h | h
    · subst h; rfl
    · omega
  · rcases h with h | h
    · omega
    · subst h; rw [Nat.sub_self, Nat.add_zero]
theorem srt_out {xs ys : List RT} {a b c e : Nat} (h : pm zT xs ys a b) (hb : b ≤ c) (hs : srt kT iT zT xs c e) : srt kT iT zT ys c e := fun i j k1 k2 k3 => by
  rw [h.out i (.inr (by omega)), h.out j (.inr (by omega))]; exact hs i j k1 k2 k3
theorem low_out {xs ys : List RT} {a b c m e : Nat} (h : pm zT xs ys a b) (hb : b ≤ c) (hc : c ≤ m) (hs : low iT zT xs c m e) : low iT zT ys c m e := fun i j k1 k2 k3 k4 => by
  rw [h.out i (.inr (by omega)), h.out j (.inr (by omega))]; exact hs i j k1 k2 k3 k4
theorem band {p q r : Prop} [Decidable p] [Decidable q] [Decidable r] (h : p ∧ q ↔ r) : (bif decide p then decide q else false) = decide r := by
  by_cases hp : p
  · rw [decide_eq_true hp, cond_true]; exact decide_eq_decide.2 ⟨fun hq => h.1 ⟨hp, hq⟩, fun hr => (h.2 hr).2⟩
  · rw [decide_eq_false hp, cond_false]; exact (decide_eq_false fun hr => hp (h.2 hr).1).symm
set_option maxHeartbeats 2000000 in
theorem symMerge_c (d : Nat) : ∀ (xs : List RT) (_ : xs.length ≤ 1048576) (a m b : Nat) (_ : b - a ≤ d) (_ : a < m) (_ : m < b) (_ : b ≤ xs.length) (_ : srt kT iT zT xs a m) (_ : srt kT iT zT xs m b) (_ : low iT zT xs a m b),
    Con Tryz.prog 194 [900] [.a (.g 900), vI a, vI m, vI b, cmpT] [(900, arrC 7 eT zT xs)] (fun ys : List RT => pm zT xs ys a b ∧ srt kT iT zT ys a b) (fun _ => []) fun ys => [(900, arrC 7 eT zT ys)] := by
  induction d with
  | zero => intro xs _ a m b hd h1 h2; omega
  | succ d ih =>
  intro xs hl a m b hd h1 h2 h3 s1 s2 hlo
  by_cases c1 : m = a + 1
  · subst c1; exact symMerge1_c xs hl a b (by omega) h3 s2 hlo
  by_cases c2 : b = m + 1
  · subst c2; exact symMerge2_c xs hl a m h1 c1 h3 s1 hlo
  refine con_enter Tryz.func194 rfl rfl rfl fun B0 r_ D_ w0 => ?_
  refine T_auto TT_ok rfl ?_
  refine T_condE rfl (fun e => absurd e (by omega)) (fun _ => ?_)
  refine T_auto TT_ok rfl ?_
  refine T_condE rfl (fun e => absurd e (by omega)) (fun _ => ?_)
  obtain ⟨M, hM⟩ : ∃ M, M = (a + b) / 2 := ⟨_, rfl⟩
  have hM2 : 2 * M ≤ a + b ∧ a + b ≤ 2 * M + 1 := by omega
  have hMi : (((a : Int) + b) / 2).toNat = M := by omega
  obtain ⟨lo, hlo2⟩ : ∃ lo, lo = if m > M then M + m - b else a := ⟨_, rfl⟩
  obtain ⟨hi, hhi⟩ : ∃ hi, hi = if m > M then M else m := ⟨_, rfl⟩
  have hb1 : a ≤ lo ∧ lo ≤ hi ∧ hi ≤ m ∧ hi ≤ M ∧ M + m ≤ lo + b := by
    rw [hlo2, hhi]; split <;> omega
  refine T_auto TT_ok rfl ?_
  refine T_joinA (ι := Unit) (fun _ => [(20, vI lo), (21, vI hi)]) (fun _ => []) (fun _ => True) [] [] rfl rfl ?_ ?_
  · refine T_condD rfl (fun e => ?_) (fun e => ?_)
    · have e : m > M := by omega
      rw [if_pos e] at hlo2 hhi
      refine T_auto TT_ok rfl ?_
      exact X_inv () trivial Nat.zero_lt_one ⟨⟨_, rfl, SV.imp_of (vI_eq (by omega))⟩, ⟨_, rfl, SV.imp_of (vI_eq (by omega))⟩, (by repeat (first | exact trivial | refine And.intro ⟨_, rfl, SV.imp_refl _⟩ ?_))⟩ (by repeat (first | exact trivial | refine And.intro ⟨_, rfl, Ch.imp_refl _⟩ ?_))
    · have e : ¬ m > M := by omega
      rw [if_neg e] at hlo2 hhi
      refine T_auto TT_ok rfl ?_
      exact X_inv () trivial Nat.zero_lt_one ⟨⟨_, rfl, SV.imp_of (vI_eq (by omega))⟩, ⟨_, rfl, SV.imp_of (vI_eq (by omega))⟩, (by repeat (first | exact trivial | refine And.intro ⟨_, rfl, SV.imp_refl _⟩ ?_))⟩ (by repeat (first | exact trivial | refine And.intro ⟨_, rfl, Ch.imp_refl _⟩ ?_))
  intro _ _
  refine X_go TT_ok rfl ?_
  refine T_loopA (ι := Nat × Nat) (fun y => [(20, vI y.1), (21, vI y.2)]) (fun _ => []) (fun y => (lo ≤ y.1 ∧ y.1 ≤ y.2 ∧ y.2 ≤ hi) ∧ (∀ c, lo ≤ c → c < y.1 → kT (xs.getD c zT) ≤ kT (xs.getD (M + m - 1 - c) zT)) ∧ ∀ c, y.2 ≤ c → c < hi → kT (xs.getD (M + m - 1 - c) zT) < kT (xs.getD c zT)) (fun y => y.2 - y.1) (lo, hi) [] [] rfl rfl ⟨⟨Nat.le_refl _, by dsimp only; omega, Nat.le_refl _⟩, fun k q1 q2 => by dsimp only at q2; omega, fun k q1 q2 => by dsimp only at q1; omega⟩ (by repeat (first | exact trivial | refine And.intro ⟨_, rfl, SV.imp_refl _⟩ ?_)) (by repeat (first | exact trivial | refine And.intro ⟨_, rfl, Ch.imp_refl _⟩ ?_)) ?_
  rintro ⟨i, j⟩ ⟨k1, k2, k3⟩
  dsimp only at k1 k2 k3 ⊢
  refine T_auto TT_ok rfl ?_
  refine T_condD rfl (fun e => ?_) (fun e => ?_)
  · have hij : i < j := by omega
    have hh : (((i : Int) + j) / 2).toNat = (i + j) / 2 := by omega
    have hp : (((a : Int) + b) / 2 + m - 1 - ((i : Int) + j) / 2).toNat = M + m - 1 - (i + j) / 2 := by omega
    refine T_auto TT_ok rfl ?_
    refine T_drawA TT_ok [] rfl rfl fun B0 H0 => ?_
    refine DJ_one 11 rfl (by kernel_rfl) (OJ_F rfl rfl rfl ⟨(xs.getD (((a : Int) + b) / 2 + m - 1 - ((i : Int) + j) / 2).toNat zT, xs.getD (((i : Int) + j) / 2).toNat zT), rfl, rfl⟩ (SJ_dj ?_))
    refine DJ_on TT_ok rfl ?_
    refine DJ_endA TT_ok rfl ?_
    rw [hh, hp]
    refine T_cond (b := !decide (ordI (xs.getD (M + m - 1 - (i + j) / 2) zT).1.stamp (xs.getD ((i + j) / 2) zT).1.stamp < 0)) rfl (fun e2 => ?_) (fun e2 => ?_)
    · have e2 : ¬ kT (xs.getD (M + m - 1 - (i + j) / 2) zT) < kT (xs.getD ((i + j) / 2) zT) := fun h => by rw [decide_eq_true (ord_get.2 h)] at e2; cases e2
      refine T_auto TT_ok rfl ?_
      refine X_inv ((i + j) / 2 + 1, j) ⟨⟨by dsimp only; omega, by dsimp only; omega, k1.2.2⟩, fun k q1 q2 => ?_, k3⟩ (by show j - ((i + j) / 2 + 1) < j - i; omega) ⟨⟨_, rfl, SV.imp_of (vI_eq (by dsimp only; omega))⟩, ⟨_, rfl, SV.imp_refl _⟩, (by repeat (first | exact trivial | refine And.intro ⟨_, rfl, SV.imp_refl _⟩ ?_))⟩ (by repeat (first | exact trivial | refine And.intro ⟨_, rfl, Ch.imp_refl _⟩ ?_))
      dsimp only at q2
      have g1 := srt_mono s1 (show a ≤ k by omega) (show k ≤ (i + j) / 2 by omega) (by omega)
      have g2 := srt_mono s2 (show m ≤ M + m - 1 - (i + j) / 2 by omega) (show M + m - 1 - (i + j) / 2 ≤ M + m - 1 - k by omega) (by omega)
      omega
    · have e2 : kT (xs.getD (M + m - 1 - (i + j) / 2) zT) < kT (xs.getD ((i + j) / 2) zT) := ord_get.1 (of_decide_eq_true (by simpa using e2))
      refine T_auto TT_ok rfl ?_
      refine X_inv (i, (i + j) / 2) ⟨⟨k1.1, by dsimp only; omega, by dsimp only; omega⟩, k2, fun k q1 q2 => ?_⟩ (by show (i + j) / 2 - i < j - i; omega) ⟨⟨_, rfl, SV.imp_refl _⟩, ⟨_, rfl, SV.imp_of (vI_eq (by dsimp only; omega))⟩, (by repeat (first | exact trivial | refine And.intro ⟨_, rfl, SV.imp_refl _⟩ ?_))⟩ (by repeat (first | exact trivial | refine And.intro ⟨_, rfl, Ch.imp_refl _⟩ ?_))
      dsimp only at q1
      have g1 := srt_mono s1 (show a ≤ (i + j) / 2 by omega) q1 (by omega)
      have g2 := srt_mono s2 (show m ≤ M + m - 1 - k by omega) (show M + m - 1 - k ≤ M + m - 1 - (i + j) / 2 by omega) (by omega)
      omega
  have hij : j = i := by omega
  subst hij
  have HS := search_ok (n := M + m) (start := j) h1 h2 (by omega) s1 s2 (by rw [← hM, ← hlo2]; exact k1.1) (by rw [← hM, ← hhi]; exact k1.2.2) (fun c q1 q2 => k2 c (by rw [← hM, ← hlo2] at q1; exact q1) q2) (fun c q1 q2 => k3 c q1 (by rw [← hM, ← hhi] at q2; exact q2))
  obtain ⟨⟨t1, t2, t3, t4, t5⟩, t6, t7⟩ := HS
  rw [← hM] at t5
  refine T_auto TT_ok rfl ?_
  refine T_joinA (ι := List RT) (fun _ => []) (fun ys => [(900, arrC 7 eT zT ys)]) (fun ys => isRot zT xs ys j m (M + m - j)) [900] [] rfl rfl ?_ ?_
  · refine T_cond (b := decide (j < m ∧ m < M + m - j)) (congrArg (fun b => some (vB b)) (band (by omega))) (fun e => ?_) (fun e => ?_)
    · have e := of_decide_eq_true e
      refine T_auto TT_ok rfl ?_
      refine RJ_C TT_ok (rotate_c xs hl j m (M + m - j) e.1 e.2 (by omega)) rfl rfl (SVs.cons (SV.imp_refl _) (SVs.cons (SV.imp_refl _) (SVs.cons (SV.imp_refl _) (SVs.cons (SV.imp_of (vI_eq (by omega))) (SVs.imp_refl _))))) (fun _ => rfl) rfl rfl rfl (fun zs hz => ?_)
      refine RJ_auto TT_ok rfl ?_
      exact X_inv zs hz Nat.zero_lt_one (by repeat (first | exact trivial | refine And.intro ⟨_, rfl, SV.imp_refl _⟩ ?_)) (by repeat (first | exact trivial | refine And.intro ⟨_, rfl, Ch.imp_refl _⟩ ?_))
    · have e := of_decide_eq_false e
      refine T_auto TT_ok rfl ?_
      exact X_inv xs (rot_triv (by omega)) Nat.zero_lt_one (by repeat (first | exact trivial | refine And.intro ⟨_, rfl, SV.imp_refl _⟩ ?_)) (by repeat (first | exact trivial | refine And.intro ⟨_, rfl, Ch.imp_refl _⟩ ?_))
  intro ys hr
  have H := halves t1 t2 t3 t4 hr s1 s2 hlo t6 t7
  rw [t5] at H
  have hyl := hr.pm.len
  refine X_go TT_ok rfl ?_
  refine T_joinA (ι := List RT) (fun _ => []) (fun us => [(900, arrC 7 eT zT us)]) (fun us => pm zT ys us a M ∧ srt kT iT zT us a M) [900] [] rfl rfl ?_ ?_
  · refine T_cond (b := decide (a < j ∧ j < M)) (congrArg (fun b => some (vB b)) (band (by omega))) (fun e => ?_) (fun e => ?_)
    · have e := of_decide_eq_true e
      refine T_auto TT_ok rfl ?_
      refine RJ_C TT_ok (ih ys (by omega) a j M (by omega) e.1 e.2 (by omega) H.s1 H.s2 H.l1) rfl rfl (SVs.cons (SV.imp_refl _) (SVs.cons (SV.imp_refl _) (SVs.cons (SV.imp_refl _) (SVs.cons (SV.imp_of (vI_eq (by omega))) (SVs.imp_refl _))))) (fun _ => rfl) rfl rfl rfl (fun zs hz => ?_)
      refine RJ_auto TT_ok rfl ?_
      exact X_inv zs hz Nat.zero_lt_one (by repeat (first | exact trivial | refine And.intro ⟨_, rfl, SV.imp_refl _⟩ ?_)) (by repeat (first | exact trivial | refine And.intro ⟨_, rfl, Ch.imp_refl _⟩ ?_))
    · have e := of_decide_eq_false e
      refine T_auto TT_ok rfl ?_
      refine X_inv ys ⟨pm.refl _ _ _, ?_⟩ Nat.zero_lt_one (by repeat (first | exact trivial | refine And.intro ⟨_, rfl, SV.imp_refl _⟩ ?_)) (by repeat (first | exact trivial | refine And.intro ⟨_, rfl, Ch.imp_refl _⟩ ?_))
      by_cases q : a = j
      · have := H.s2; rw [← q] at this; exact this
      · have := H.s1; rw [show j = M by omega] at this; exact this
  intro us hu
  have hul := hu.1.len
  refine X_go TT_ok rfl ?_
  refine T_cond (b := decide (M < M + m - j ∧ M + m - j < b)) (congrArg (fun b => some (vB b)) (band (by omega))) (fun e => ?_) (fun e => ?_)
  · have e := of_decide_eq_true e
    refine T_auto TT_ok rfl ?_
    refine RJ_C TT_ok (ih us (by omega) M (M + m - j) b (by omega) e.1 e.2 (by omega) (srt_out hu.1 (Nat.le_refl _) H.s3) (srt_out hu.1 (by omega) H.s4) (low_out hu.1 (Nat.le_refl _) (by omega) H.l2)) rfl rfl (SVs.cons (SV.imp_refl _) (SVs.cons (SV.imp_of (vI_eq (by omega))) (SVs.cons (SV.imp_of (vI_eq (by omega))) (SVs.imp_refl _)))) (fun _ => rfl) rfl rfl rfl (fun ws hw => ?_)
    refine RJ_fin TT_ok rfl ?_
    refine X_fin TT_ok ws [] rfl rfl ?_ ?_ ?_
    · exact SVs.imp_refl _
    · exact ⟨⟨_, rfl, Ch.imp_refl _⟩, trivial⟩
    · have G := glue (by omega) (by omega) H.cross hu.1 hu.2 hw.1 hw.2
      exact ⟨(hr.pm.sub t1 t4).trans G.2, G.1⟩
  · have e := of_decide_eq_false e
    refine T_skip ?_
    refine X_fin TT_ok us [] rfl rfl ?_ ?_ ?_
    · exact SVs.imp_refl _
    · exact ⟨⟨_, rfl, Ch.imp_refl _⟩, trivial⟩
    · have hs3 : srt kT iT zT us M b := by
        by_cases q : M = M + m - j
        · have := srt_out hu.1 (show M ≤ M + m - j by omega) H.s4; rw [← q] at this; exact this
        · have := srt_out hu.1 (Nat.le_refl _) H.s3; rw [show M + m - j = b by omega] at this; exact this
      have G := glue (by omega) (by omega) H.cross hu.1 hu.2 (pm.refl us M b) hs3
      exact ⟨(hr.pm.sub t1 t4).trans G.2, G.1⟩
end Go.Proofs.YthpjoddhlkcciaaGreat
namespace Go.Proofs.YthpjoddhlkcciaaGreat
open Go Go.RowKit
set_option linter.unusedVariables false
set_option linter.unusedSimpArgs false
set_option maxRecDepth 4000
theorem div_below {q a i j : Nat} (hq : 0 < q) (ha : q ∣ a) (hi : i < a) (hj : a ≤ j) : i / q < j / q := by
  obtain ⟨k, rfl⟩ := ha
  have h1 : i / q < k := Nat.div_lt_of_lt_mul hi
  have h2 : k ≤ j / q := (Nat.le_div_iff_mul_le hq).2 (by rw [Nat.mul_comm]; exact hj)
  omega
theorem div_same {q a i : Nat} (hq : 0 < q) (ha : q ∣ a) (hi : a ≤ i) (hi2 : i < a + q) : i / q = a / q := by
  obtain ⟨k, rfl⟩ := ha
  have e : i = (i - q * k) + q * k := by omega
  rw [e, Nat.add_mul_div_left _ _ hq, Nat.div_eq_of_lt (by omega), Nat.mul_div_cancel_left _ hq, Nat.zero_add]
theorem div_half {s i j : Nat} (hs : 0 < s) (h : i / (2 * s) < j / (2 * s)) : i / s < j / s := by
  rw [Nat.mul_comm, ← Nat.div_div_eq_div_mul, ← Nat.div_div_eq_div_mul] at h
  omega
theorem div_mono {q i j : Nat} (h : i ≤ j) : i / q ≤ j / q := Nat.div_le_div_right h
section
variable {α : Type} {z : α} {key idx : α → Int}
def blk (key idx : α → Int) (z : α) (xs : List α) (s : Nat) : Prop := (∀ i j, i < j → j < xs.length → i / s = j / s → lx key idx (xs.getD i z) (xs.getD j z)) ∧ ∀ i j, i < j → j < xs.length → i / s < j / s → idx (xs.getD i z) < idx (xs.getD j z)
structure stage (key idx : α → Int) (z : α) (zs ys : List α) (q a : Nat) : Prop where
  perm : ys.Perm zs
  out : ∀ i, a ≤ i → ys.getD i z = zs.getD i z
  bp : ∀ i, i < zs.length → ∃ i', i' < zs.length ∧ i' / q = i / q ∧ ys.getD i z = zs.getD i' z
  ord : ∀ i j, i < j → j < a → i / q = j / q → lx key idx (ys.getD i z) (ys.getD j z)
theorem stage.first (zs : List α) (q : Nat) : stage key idx z zs zs q 0 := ⟨List.Perm.refl _, fun _ _ => rfl, fun i hi => ⟨i, hi, rfl, rfl⟩, fun i j _ hj => absurd hj (Nat.not_lt_zero _)⟩
theorem stage.len {zs ys : List α} {q a : Nat} (h : stage key idx z zs ys q a) : ys.length = zs.length := h.perm.length_eq
theorem stage.step {zs ys ws : List α} {q a b : Nat} (h : stage key idx z zs ys q a) (hq : 0 < q) (ha : q ∣ a) (hab : a ≤ b) (hb : b ≤ a + q) (hn : b ≤ zs.length) (hp : pm z ys ws a b) (hs : srt key idx z ws a b) : stage key idx z zs ws q b := by
  refine ⟨hp.perm.trans h.perm, fun i hi => (hp.out i (.inr hi)).trans (h.out i (by omega)), fun i hi => ?_, fun i j hij hj he => ?_⟩
  · by_cases c : a ≤ i ∧ i < b
    · obtain ⟨k, k1, k2, k3⟩ := hp.mem i c.1 c.2
      refine ⟨k, by omega, ?_, k3.trans (h.out k k1)⟩
      rw [div_same hq ha k1 (by omega), div_same hq ha c.1 (by omega)]
    · obtain ⟨k, k1, k2, k3⟩ := h.bp i hi
      exact ⟨k, k1, k2, (hp.out i (by omega)).trans k3⟩
  · by_cases c : a ≤ i
    · exact hs i j c hij hj
    · by_cases c2 : a ≤ j
      · have := div_below hq ha (show i < a by omega) c2; omega
      · rw [hp.out i (.inl (by omega)), hp.out j (.inl (by omega))]
        exact h.ord i j hij (by omega) he
theorem stage.skip {zs ys : List α} {q a b : Nat} (h : stage key idx z zs ys q a) (hq : 0 < q) (ha : q ∣ a) (hab : a ≤ b) (hb : b ≤ a + q) (hn : b ≤ zs.length) (hs : srt key idx z zs a b) : stage key idx z zs ys q b :=
  h.step hq ha hab hb hn (pm.refl ys a b) fun i j k1 k2 k3 => by rw [h.out i k1, h.out j (by omega)]; exact hs i j k1 k2 k3
theorem stage.done {zs ys : List α} {q : Nat} (h : stage key idx z zs ys q zs.length) (hc : ∀ i j, i < j → j < zs.length → i / q < j / q → idx (zs.getD i z) < idx (zs.getD j z)) : blk key idx z ys q := by
  refine ⟨fun i j h1 h2 h3 => h.ord i j h1 (by rw [← h.len]; exact h2) h3, fun i j h1 h2 h3 => ?_⟩
  rw [h.len] at h2
  obtain ⟨i', i1, i2, i3⟩ := h.bp i (by omega)
  obtain ⟨j', j1, j2, j3⟩ := h.bp j h2
  rw [i3, j3]
  have hlt : i' < j' := by
    by_cases c : i' < j'
    · exact c
    · have := div_mono (q := q) (show j' ≤ i' by omega); omega
  exact hc i' j' hlt j1 (by omega)
theorem blk.cross {zs : List α} {s : Nat} (h : blk key idx z zs s) (hs : 0 < s) : ∀ i j, i < j → j < zs.length → i / (2 * s) < j / (2 * s) → idx (zs.getD i z) < idx (zs.getD j z) := fun i j h1 h2 h3 => h.2 i j h1 h2 (div_half hs h3)
theorem blk.sorted {zs : List α} {s a b : Nat} (h : blk key idx z zs s) (hs : 0 < s) (ha : s ∣ a) (hb : b ≤ a + s) (hn : b ≤ zs.length) : srt key idx z zs a b := fun i j k1 k2 k3 => h.1 i j k2 (by omega) (by rw [div_same hs ha k1 (by omega), div_same (i := j) hs ha (by omega) (by omega)])
theorem blk.low {zs : List α} {s m a b : Nat} (h : blk key idx z zs s) (hs : 0 < s) (hm : s ∣ m) (hn : b ≤ zs.length) : low idx z zs a m b := fun i j _ k2 k3 k4 => h.2 i j (by omega) (by omega) (div_below hs hm k2 k3)
theorem blk.all {zs : List α} {s : Nat} (h : blk key idx z zs s) (hs : zs.length ≤ s) : srt key idx z zs 0 zs.length := fun i j _ k2 k3 => h.1 i j k2 k3 (by rw [Nat.div_eq_of_lt (by omega), Nat.div_eq_of_lt (by omega)])
end
end Go.Proofs.YthpjoddhlkcciaaGreat
namespace Go.Proofs.YthpjoddhlkcciaaGreat
open Go Go.RowKit
set_option linter.unusedVariables false
set_option linter.unusedSimpArgs false
set_option maxRecDepth 4000
theorem stage.srtIn {xs ys : List RT} {q a b c : Nat} (h : stage kT iT zT xs ys q a) (hb : a ≤ b) (hs : srt kT iT zT xs b c) : srt kT iT zT ys b c := fun i j k1 k2 k3 => by
  rw [h.out i (by omega), h.out j (by omega)]; exact hs i j k1 k2 k3
theorem stage.lowIn {xs ys : List RT} {q a m c : Nat} (h : stage kT iT zT xs ys q a) (hm : a ≤ m) (hs : low iT zT xs a m c) : low iT zT ys a m c := fun i j k1 k2 k3 k4 => by
  rw [h.out i (by omega), h.out j (by omega)]; exact hs i j k1 k2 k3 k4
set_option maxHeartbeats 2000000 in
theorem stableCmp_c (xs : List RT) (hl : xs.length ≤ 1048576) (hx : ∀ i j, i < j → j < xs.length → iT (xs.getD i zT) < iT (xs.getD j zT)) :
    Con Tryz.prog 156 [900] [.a (.g 900), vI xs.length, cmpT] [(900, arrC 7 eT zT xs)] (fun ys : List RT => ys.Perm xs ∧ srt kT iT zT ys 0 ys.length) (fun _ => []) fun ys => [(900, arrC 7 eT zT ys)] := by
  refine con_enter Tryz.func156 rfl rfl rfl fun B0 r_ D_ w0 => ?_
  refine T_auto TT_ok rfl ?_
  refine T_loopA (ι := Nat × List RT) (fun s => [(7, vI s.1), (8, vI ((s.1 + 20 : Nat) : Int))]) (fun s => [(900, arrC 7 eT zT s.2)]) (fun s => stage kT iT zT xs s.2 20 s.1 ∧ 20 ∣ s.1 ∧ s.1 ≤ xs.length) (fun s => xs.length - s.1) (0, xs) [900] [] rfl rfl ⟨stage.first xs 20, ⟨0, rfl⟩, Nat.zero_le _⟩ ⟨⟨_, rfl, SV.imp_refl _⟩, ⟨_, rfl, SV.imp_of (vI_eq (by dsimp only; omega))⟩, (by repeat (first | exact trivial | refine And.intro ⟨_, rfl, SV.imp_refl _⟩ ?_))⟩ (by repeat (first | exact trivial | refine And.intro ⟨_, rfl, Ch.imp_refl _⟩ ?_)) ?_
  rintro ⟨a, ys⟩ ⟨k1, k2, k3⟩
  have hlen := k1.len
  dsimp only at k1 k2 k3 hlen ⊢
  have hxa : ∀ b, b ≤ xs.length → ∀ i j, a ≤ i → i < j → j < b → iT (ys.getD i zT) < iT (ys.getD j zT) := fun b hb i j q1 q2 q3 => by
    rw [k1.out i q1, k1.out j (by omega)]; exact hx i j q2 (by omega)
  refine T_auto TT_ok rfl ?_
  refine T_condD rfl (fun e => ?_) (fun e => ?_)
  · have hn : a + 20 ≤ xs.length := by omega
    refine T_auto TT_ok rfl ?_
    refine RJ_C TT_ok (insertion_c ys (by omega) a (a + 20) (by omega) (by omega) (hxa _ hn)) rfl rfl (SVs.imp_refl _) (fun _ => rfl) rfl rfl rfl (fun zs hz => ?_)
    refine RJ_auto TT_ok rfl ?_
    exact X_inv (a + 20, zs) ⟨k1.step (by decide) k2 (by omega) (Nat.le_refl _) hn hz.1 hz.2, Nat.dvd_add k2 ⟨1, rfl⟩, hn⟩ (by show xs.length - (a + 20) < xs.length - a; omega) ⟨⟨_, rfl, SV.imp_refl _⟩, ⟨_, rfl, SV.imp_of (vI_eq (by dsimp only; omega))⟩, (by repeat (first | exact trivial | refine And.intro ⟨_, rfl, SV.imp_refl _⟩ ?_))⟩ (by repeat (first | exact trivial | refine And.intro ⟨_, rfl, Ch.imp_refl _⟩ ?_))
  have hn : xs.length < a + 20 := by omega
  refine T_auto TT_ok rfl ?_
  refine RJ_C TT_ok (insertion_c ys (by omega) a xs.length k3 (by omega) (hxa _ (Nat.le_refl _))) rfl rfl (SVs.imp_refl _) (fun _ => rfl) rfl rfl rfl (fun zs hz => ?_)
  have hst := k1.step (by decide) k2 k3 (by omega) (Nat.le_refl _) hz.1 hz.2
  have hblk := hst.done fun i j q1 q2 _ => hx i j q1 q2
  refine RJ_auto TT_ok rfl ?_
  refine T_loopA (ι := Nat × List RT) (fun s => [(6, vI s.1)]) (fun s => [(900, arrC 7 eT zT s.2)]) (fun s => (0 < s.1 ∧ s.1 ≤ 20 + 2 * xs.length) ∧ blk kT iT zT s.2 s.1 ∧ s.2.Perm xs) (fun s => xs.length - s.1) (20, zs) [900] [] rfl rfl ⟨⟨by show 0 < 20; omega, by show 20 ≤ _; omega⟩, hblk, hst.perm⟩ (by repeat (first | exact trivial | refine And.intro ⟨_, rfl, SV.imp_refl _⟩ ?_)) (by repeat (first | exact trivial | refine And.intro ⟨_, rfl, Ch.imp_refl _⟩ ?_)) ?_
  rintro ⟨s, us⟩ ⟨⟨m1, m2⟩, m3, m4⟩
  have hul := m4.length_eq
  dsimp only at m1 m2 m3 m4 hul ⊢
  refine T_auto TT_ok rfl ?_
  refine T_condD rfl (fun e => ?_) (fun e => ?_)
  · have hs : s < xs.length := by omega
    refine T_auto TT_ok rfl ?_
    refine T_loopA (ι := Nat × List RT) (fun y => [(7, vI y.1), (8, vI ((y.1 + 2 * s : Nat) : Int))]) (fun y => [(900, arrC 7 eT zT y.2)]) (fun y => stage kT iT zT us y.2 (2 * s) y.1 ∧ 2 * s ∣ y.1 ∧ y.1 ≤ xs.length) (fun y => xs.length - y.1) (0, us) [900] [] rfl rfl ⟨stage.first us _, ⟨0, rfl⟩, Nat.zero_le _⟩ ⟨⟨_, rfl, SV.imp_refl _⟩, ⟨_, rfl, SV.imp_of (vI_eq (by dsimp only; omega))⟩, (by repeat (first | exact trivial | refine And.intro ⟨_, rfl, SV.imp_refl _⟩ ?_))⟩ (by repeat (first | exact trivial | refine And.intro ⟨_, rfl, Ch.imp_refl _⟩ ?_)) ?_
    rintro ⟨a, ws⟩ ⟨q1, q2, q3⟩
    have hwl := q1.len
    dsimp only at q1 q2 q3 hwl ⊢
    have hds : s ∣ a := Nat.dvd_trans ⟨2, Nat.mul_comm 2 s⟩ q2
    have hdm : s ∣ a + s := Nat.dvd_add hds ⟨1, (Nat.mul_one s).symm⟩
    refine T_auto TT_ok rfl ?_
    refine T_condD rfl (fun e2 => ?_) (fun e2 => ?_)
    · have hb : a + 2 * s ≤ xs.length := by omega
      have p1 := q1.srtIn (Nat.le_refl _) (m3.sorted m1 hds (Nat.le_refl _) (show a + s ≤ us.length by omega))
      have p2 := q1.srtIn (b := a + s) (by omega) (m3.sorted m1 hdm (show a + 2 * s ≤ a + s + s by omega) (by omega))
      have p3 := q1.lowIn (m := a + s) (c := a + 2 * s) (by omega) (m3.low m1 hdm (by omega))
      refine T_auto TT_ok rfl ?_
      refine RJ_C TT_ok (symMerge_c (2 * s) ws (by omega) a (a + s) (a + 2 * s) (by omega) (by omega) (by omega) (by omega) p1 p2 p3) rfl rfl (SVs.cons (SV.imp_refl _) (SVs.cons (SV.imp_refl _) (SVs.cons (SV.imp_of (vI_eq (by omega))) (SVs.imp_refl _)))) (fun _ => rfl) rfl rfl rfl (fun vs hv => ?_)
      refine RJ_auto TT_ok rfl ?_
      exact X_inv (a + 2 * s, vs) ⟨q1.step (by omega) q2 (by omega) (Nat.le_refl _) (by omega) hv.1 hv.2, Nat.dvd_add q2 ⟨1, (Nat.mul_one _).symm⟩, hb⟩ (by show xs.length - (a + 2 * s) < xs.length - a; omega) ⟨⟨_, rfl, SV.imp_refl _⟩, ⟨_, rfl, SV.imp_of (vI_eq (by dsimp only; omega))⟩, (by repeat (first | exact trivial | refine And.intro ⟨_, rfl, SV.imp_refl _⟩ ?_))⟩ (by repeat (first | exact trivial | refine And.intro ⟨_, rfl, Ch.imp_refl _⟩ ?_))
    have hb : xs.length < a + 2 * s := by omega
    refine T_auto TT_ok rfl ?_
    refine T_condD rfl (fun e3 => ?_) (fun e3 => ?_)
    · have hm : a + s < xs.length := by omega
      have p1 := q1.srtIn (Nat.le_refl _) (m3.sorted m1 hds (Nat.le_refl _) (show a + s ≤ us.length by omega))
      have p2 := q1.srtIn (b := a + s) (c := xs.length) (by omega) (m3.sorted m1 hdm (by omega) (by omega))
      have p3 := q1.lowIn (m := a + s) (c := xs.length) (by omega) (m3.low m1 hdm (by omega))
      refine T_auto TT_ok rfl ?_
      refine RJ_C TT_ok (symMerge_c (2 * s) ws (by omega) a (a + s) xs.length (by omega) (by omega) (by omega) (by omega) p1 p2 p3) rfl rfl (SVs.cons (SV.imp_refl _) (SVs.cons (SV.imp_refl _) (SVs.cons (SV.imp_of (vI_eq (by omega))) (SVs.imp_refl _)))) (fun _ => rfl) rfl rfl rfl (fun vs hv => ?_)
      refine RJ_auto TT_ok rfl ?_
      have S := q1.step (by omega) q2 (show a ≤ us.length by omega) (by omega) (Nat.le_refl _) (by rw [hul]; exact hv.1) (by rw [hul]; exact hv.2)
      exact X_inv (2 * s, vs) ⟨⟨by dsimp only; omega, by dsimp only; omega⟩, S.done (m3.cross m1), S.perm.trans m4⟩ (by show xs.length - 2 * s < xs.length - s; omega) ⟨⟨_, rfl, SV.imp_of (vI_eq (by dsimp only; omega))⟩, (by repeat (first | exact trivial | refine And.intro ⟨_, rfl, SV.imp_refl _⟩ ?_))⟩ (by repeat (first | exact trivial | refine And.intro ⟨_, rfl, Ch.imp_refl _⟩ ?_))
    · have hm : xs.length ≤ a + s := by omega
      have S := q1.skip (by omega) q2 (show a ≤ us.length by omega) (by omega) (Nat.le_refl _) (m3.sorted m1 hds (by omega) (Nat.le_refl _))
      refine T_auto TT_ok rfl ?_
      exact X_inv (2 * s, ws) ⟨⟨by dsimp only; omega, by dsimp only; omega⟩, S.done (m3.cross m1), S.perm.trans m4⟩ (by show xs.length - 2 * s < xs.length - s; omega) ⟨⟨_, rfl, SV.imp_of (vI_eq (by dsimp only; omega))⟩, (by repeat (first | exact trivial | refine And.intro ⟨_, rfl, SV.imp_refl _⟩ ?_))⟩ (by repeat (first | exact trivial | refine And.intro ⟨_, rfl, Ch.imp_refl _⟩ ?_))
  · have hs : xs.length ≤ s := by omega
    refine T_exit rfl ?_
    refine X_fin TT_ok us [] rfl rfl ?_ ?_ ?_
    · exact SVs.imp_refl _
    · exact ⟨⟨_, rfl, Ch.imp_refl _⟩, trivial⟩
    · exact ⟨m4, m3.all (by omega)⟩
theorem sortStable_c (xs : List RT) (hl : xs.length ≤ 1048576) (hx : ∀ i j, i < j → j < xs.length → iT (xs.getD i zT) < iT (xs.getD j zT)) :
    Con Tryz.prog 102 [900] [.a (.g 900), cmpT] [(900, arrC 7 eT zT xs)] (fun ys : List RT => ys.Perm xs ∧ srt kT iT zT ys 0 ys.length) (fun _ => []) fun ys => [(900, arrC 7 eT zT ys)] := by
  refine con_enter Tryz.func102 rfl rfl rfl fun B0 r_ D_ w0 => ?_
  refine T_auto TT_ok rfl ?_
  refine RJ_C TT_ok (stableCmp_c xs hl hx) rfl rfl (SVs.imp_refl _) (fun _ => rfl) rfl rfl rfl (fun ys hy => ?_)
  refine RJ_fin TT_ok rfl ?_
  refine X_fin TT_ok ys [] rfl rfl ?_ ?_ ?_
  · exact SVs.imp_refl _
  · exact ⟨⟨_, rfl, Ch.imp_refl _⟩, trivial⟩
  · exact hy
end Go.Proofs.YthpjoddhlkcciaaGreat
namespace Go.Proofs.YthpjoddhlkcciaaGreat
open Go Go.RowKit
set_option linter.unusedVariables false
set_option linter.unusedSimpArgs false
section
variable {E : Env} {mu mu' : Mu} {fr : Fr} {gf : GF} {R : Exit → Act → World → Prop} {K : List KF} {c : Code} {x : Nx} {v : Value}
theorem V_row (j : Nat) {l l' : List V} (hk : mlk j mu = some (.row l)) (hmu : mset j (.row l') mu = some mu') (hlen : l'.length = l.length)
    (h : ∀ B w H, Mem E B mu w H → ∀ h' vs, V.owns B E.r h' l vs → V.owns B E.r h' l' vs) : View E fr gf mu fr gf mu' := fun B w H a f m =>
  ⟨B, H, f, ⟨⟨fun i d e => by
    rw [mset_spec hmu i] at e
    by_cases hj : i = j
    · rw [if_pos hj] at e; injection e with e; subst e; subst hj
      obtain ⟨b, o, vs, h', e1, e2, e3, e4⟩ := m.mm.sat i _ hk
      exact ⟨b, o, vs, h', e1, h B w H m h' vs e2, e3, fun n hn => e4 n (by rw [← hlen]; exact hn)⟩
    · rw [if_neg hj] at e; exact m.mm.sat i d e, m.mm.fit, m.mm.dj, m.mm.djr, m.mm.fitr⟩, m.keep, m.dom, m.anch⟩⟩
end
end Go.Proofs.YthpjoddhlkcciaaGreat
namespace Go.Proofs.YthpjoddhlkcciaaGreat
open Go Go.RowKit
set_option linter.unusedVariables false
set_option linter.unusedSimpArgs false
theorem rds_plain {h : PH} : ∀ l : List Value, D.rds h (l.map D.v) l
  | [] => rfl
  | x :: r => ⟨x, r, rfl, rfl, rds_plain r⟩
theorem rd_raw {h : PH} {sz n : Nat} {f : Nat → List D} {y : Value} (e : D.rd h (.sl sz n f) y) : ∃ rw : Nat → List Value, (∀ i, i < n → D.rds h (f i) (rw i) ∧ (rw i).length = sz) ∧ D.rd h (.sl sz n fun i => (rw i).map D.v) y := by
  obtain ⟨A, c, rfl, h1, h2, h3⟩ := e
  rcases h3 with h3 | ⟨b, o, rfl, h3⟩
  · exact ⟨fun _ => [], fun i hi => by omega, A, c, rfl, h1, h2, .inl h3⟩
  · refine ⟨fun i => if hi : i < n then Classical.choose (h3 i hi) else [], fun i hi => ?_, _, c, rfl, h1, h2, .inr ⟨b, o, rfl, fun i hi => ?_⟩⟩
    · simp only [dif_pos hi]
      have := Classical.choose_spec (h3 i hi)
      exact ⟨this.1, this.2.1⟩
    · have := Classical.choose_spec (h3 i hi)
      refine ⟨Classical.choose (h3 i hi), ?_, this.2.1, this.2.2⟩
      show D.rds h ((if hi : i < n then Classical.choose (h3 i hi) else []).map D.v) _
      rw [dif_pos hi]
      exact rds_plain _
section
variable {E : Env} {mu mu' : Mu} {fr : Fr} {gf : GF} {R : Exit → Act → World → Prop} {K : List KF} {c : Code}
theorem fit_put {B : BE} {H : Nat → PH} {a : Act} (ff : FitsE E B H fr gf a) (t : Nat) {x x' : SV} (ht : mlk t fr = some x) (hg : glk t gf = none) (hv : SV.rel E.P B (Zf E.r H) x (a.tmps.getD t undef) → SV.rel E.P B (Zf E.r H) x' (a.tmps.getD t undef)) : FitsE E B H ((t, x') :: fr) gf a := by
  refine ⟨ff.size, ff.defers, fun t' y e1 e2 => ?_, ff.vgf, ff.vgu, fun t' d w y e1 => ?_⟩
  · rw [mlk_cons] at e1
    by_cases h : t = t'
    · subst h
      rw [if_pos rfl] at e1
      injection e1 with e1
      subst e1
      exact hv (ff.vfr t _ ht e2)
    · rw [if_neg h] at e1; exact ff.vfr t' y e1 e2
  · rw [mlk_cons]
    by_cases h : t = t'
    · subst h
      have := ff.vno t d w y e1
      rw [ht] at this; cases this
    · rw [if_neg h]; exact ff.vno t' d w y e1
end
end Go.Proofs.YthpjoddhlkcciaaGreat
namespace Go.Proofs.YthpjoddhlkcciaaGreat
open Go Go.RowKit
set_option linter.unusedVariables false
set_option linter.unusedSimpArgs false
def ConX {ι : Type} (r0 : PH) (P : Program) (f : Nat) (ks : List Nat) (args : List SV) (mu : Mu) (φ : ι → Prop) (res : ι → List SV) (mu' : ι → Mu) : Prop :=
  ∀ (B : BE) (r : PH) (w : World) (H : Nat → PH) (vals : List Value), r0.le r → Mm B r mu w H → (∀ k, hasK k (keysO mu) = false → H k = PH.emp) → SV.rels P B (Zf r H) args vals →
    Calls P f vals.toArray w fun e w' => ∃ y B' H' out, φ y ∧ e = .returned (resV out) ∧ SV.rels P B' (Zf r H') (res y) out ∧ Mm B' r (mu' y) w' H' ∧ (∀ k, hasK k ks = true → B' k = B k) ∧ Keep (ownD mu H) w w' ∧ ∀ k b o, H' k b o ≠ none → ownD mu H b o ∨ w.heap.size ≤ b
theorem Con.x {ι : Type} {r0 : PH} {P : Program} {f : Nat} {ks : List Nat} {args : List SV} {mu : Mu} {φ : ι → Prop} {res : ι → List SV} {mu' : ι → Mu} (C : Con P f ks args mu φ res mu') : ConX r0 P f ks args mu φ res mu' := fun B r w H vals _ => C B r w H vals
theorem ConX.all {ι : Type} {P : Program} {f : Nat} {ks : List Nat} {args : List SV} {mu : Mu} {φ : ι → Prop} {res : ι → List SV} {mu' : ι → Mu} (C : ConX PH.emp P f ks args mu φ res mu') : Con P f ks args mu φ res mu' := fun B r w H vals => C B r w H vals (PH.emp_le r)
theorem ConX.sw (a b : Nat) {ι : Type} {P : Program} {f : Nat} {ks : List Nat} {args : List SV} {mu : Mu} {φ : ι → Prop} {res : ι → List SV} {mu' : ι → Mu} {r0 : PH} (C : ConX r0 P f ks args mu φ res mu') :
    ConX r0 P f (swKs a b ks) (swSL a b args) (swMu a b mu) φ (fun y => swSL a b (res y)) fun y => swMu a b (mu' y) := by
  intro B r w H vals h0 m hemp hargs
  have hown : ∀ c o, ownD mu (fun k => H (swN a b k)) c o ↔ ownD (swMu a b mu) H c o := fun c o => by
    constructor
    · rintro ⟨k, h1, h2⟩; exact ⟨swN a b k, by rw [keysO_sw, hasK_sw]; exact h1, h2⟩
    · rintro ⟨k, h1, h2⟩
      refine ⟨swN a b k, ?_, by simpa only [swN_swN] using h2⟩
      rw [keysO_sw] at h1
      rw [← hasK_sw (a := a) (b := b), swN_swN]; exact h1
  refine (C _ r w _ vals h0 m.sw (fun k hk => hemp _ (by rw [keysO_sw, hasK_sw]; exact hk)) ((SV.rels_sw args).1 hargs)).mono fun e w' ⟨y, B', H', out, h1, h2, h3, h4, h5, h6, h7⟩ => ?_
  refine ⟨y, fun k => B' (swN a b k), fun k => H' (swN a b k), out, h1, h2, ?_, h4.unsw, fun k hk => ?_, h6.mono fun c _ o h => (hown c o).1 h, fun k c o h => (h7 _ c o h).imp_left (hown c o).1⟩
  · refine (SV.rels_sw (res y)).2 ?_
    simpa only [swN_swN] using h3
  · have := h5 (swN a b k) (by rw [← hasK_sw (a := a) (b := b), swN_swN]; exact hk)
    simpa only [swN_swN] using this
theorem conX_enter {ι : Type} {r0 : PH} {mu : Mu} {P : Program} {f : FuncId} {fn : Func} {c : Code} {N : Nat} {ks : List Nat} {args : List SV} {φ : ι → Prop} {res : ι → List SV} {mu' : ι → Mu} (hf : P.funcs[f]? = some fn) (hb : fn.body = some c) (hN : fn.ntmps = N) (hlen : Nat.ble args.length N = true)
    (h : ∀ (B0 : BE) (r : PH) (D : Nat → Nat → Prop) (w0 : World), r0.le r → T ⟨P, ⟨ks, B0⟩, N, r, D, w0⟩ (bodyPost P fn (RetP ⟨P, ⟨ks, B0⟩, N, r, D, w0⟩ φ res mu')) c (frOf 0 args) mu []) : ConX r0 P f ks args mu φ res mu' := by
  intro B r w H vals h0 m hemp hargs
  have hl := SV.rels_length hargs
  have hlen' : args.length ≤ N := Nat.le_of_ble_eq_true hlen
  have key : Calls P f vals.toArray w (RetP ⟨P, ⟨ks, B⟩, N, r, ownD mu H, w⟩ φ res mu') := by
    refine calls_of_wp hf hb ?_
    refine h B r (ownD mu H) w h0 B _ w H ⟨?_, rfl, fun t x e _ => ?_, fun _ _ _ _ h => (by cases h), fun _ _ _ _ h => (by cases h), fun _ _ _ _ h => (by cases h)⟩ ⟨m, Keep.refl _ _, fun k b o e => ?_, fun _ _ => rfl⟩
    · simp [hN]; omega
    · obtain ⟨_, h2⟩ := frOf_get args 0 t x e
      simp only [Nat.sub_zero] at h2
      obtain ⟨v, h3, h4⟩ := SV.rels_get hargs h2
      have hlt : t < vals.length := (List.getElem?_eq_some_iff.1 h3).1
      rw [Array.getD_eq_getD_getElem?, Array.getElem?_append_left (by simpa using hlt)]
      simpa [h3] using h4
    · refine .inl ⟨k, ?_, e⟩
      cases hk : hasK k (keysO mu) with
      | true => rfl
      | false => rw [hemp k hk] at e; exact absurd rfl e
  refine key.mono fun e w' ⟨y, B', H', out, h1, h2, h3, m'⟩ => ⟨y, B', H', out, h1, h2, h3, m'.mm, m'.anch, m'.keep, m'.dom⟩
section
variable {E : Env} {B : BE} {mu mu' : Mu} {w : World} {H : Nat → PH} {TT : List TI} {fr fr' : Fr} {gf gf' : GF} {a : Act} {all rest : List Oper} {Q : Exit → Act → World → Prop} {o : Oper} {J : Act → World → Prop} {G : AG} {R : Exit → Act → World → Prop} {K : List KF}
theorem OJ_CX {ι : Type} {f : Nat} {ks nk : List Nat} {args : List SV} {mu1 : Mu} {φ : ι → Prop} {res : ι → List SV} {mu1' : ι → Mu} (C : ConX E.r E.P f ks args mu1 φ res mu1') {svs args' : List SV} {g : Option (Nat × Nat × Bool)} {t : Nat} {q : Ob} {es : List Prop} {gs : List GO} {md : Mu}
    (hc : callC E.N all fr gf o = some (f, svs, g, t, gf')) (hg : litG fr gf g) (hen : Enters E.P f)
    (hw : wkSL mu (keysO mu1) ks svs = some (args', q)) (ha : SVs.imp E.P args' args) (hs : splitO fr gf [] q [] [] = some (es, gs)) (he : PAlls es) (ho : GAlls gs) (hin : WkIn mu mu1)
    (hnk : ∀ y, keysOf (mu1' y) = nk) (hkeys : keysB ks nk mu1 fr gf mu E.A.ks G.ks = true) (hout : ∀ y, (SV.inKL (appK ks nk) (res y) && muIn (appK ks nk) (mu1' y)) = true)
    (hmd : mdropKs (appK (keysO mu1) nk) mu = some md) {fr' : Fr} {gf2 : GF} (hcut : cutKs (keysO mu1) fr gf' = some (fr', gf2))
    (k : ∀ y, φ y → SJ G J E ((t, resS (res y)) :: fr') gf2 (appM (mu1' y) md)) : OJ G E all Q J o fr gf mu := fun B a w H f m gg => by
  have hk2 := hkeys
  simp only [keysB, Bool.and_eq_true] at hk2
  have k1 := hk2.1.1.1.1.1
  have main : ∀ {gd : Gd}, (∀ d w, (d, w) ∈ gd → a.tmps.getD d undef = .bool w) → callsOf gd fr gf o.op = some (_, svs) → o.dst = some t → t < E.N → gdrop t gf = some gf' → Region.wanted o (yielded all.toArray a.tmps) = true → One E.P all.toArray Q o J a w := fun {gd} hgd hcall hd ht hgd' hwant => by
    obtain ⟨vals, r1, r2⟩ := callsOf_run (w := w) f hgd hcall hen
    have hh := m.mm.hand k1 hin
    have W : Wk B E.r mu H (keysO mu1) (AllP E.r (keysO mu1) H) := ⟨m.mm.sat, AllP_r, fun k c _ h => AllP_le m.mm h⟩
    have hvals := SVs.imp_ok ha (wkSL_ok (Z := Zf (AllP E.r (keysO mu1) H) (onlyK (keysO mu1) H)) W rfl hw (splitO_ok f (fun _ _ hm => by cases hm) hs he ho) r2)
    refine one_call hwant r1 ((C B _ w _ vals AllP_r hh (fun k hk => by unfold onlyK; rw [hk]; rfl) hvals).mono fun e w' ⟨y, B', H', out, c1, c2, c3, c4, c5, c6, c7⟩ => ⟨resV out, c2, ?_⟩)
    rw [hd]
    exact back_J hgd' ht f m gg hnk hkeys (fun y => by
      have := hout y
      simp only [Bool.and_eq_true] at this ⊢
      exact ⟨resS_inK this.1, this.2⟩) hmd hcut k ⟨c1, resS_rel c3, c4, c5, c6, c7⟩
  match g, hc, hg with
  | none, hc, _ =>
    obtain ⟨h1, h2, h3, h4, h5⟩ := callC_none hc
    exact main (gd := []) (fun _ _ hm => by cases hm) h4 h2 (by simpa [Nat.blt_eq] using h3) h5 (wanted_none h1)
  | some (j, d, b), hc, hg =>
    obtain ⟨h1, h2, h3, h4, h5, h6, h7⟩ := callC_some hc
    simp only [Bool.and_eq_true, Bool.not_eq_true'] at h4
    have hb : a.tmps.getD d undef = .bool b := f.vfr d _ hg.2 hg.1
    exact main (acts_ok f 6 d b hb) h6 h3 (by simpa [Nat.blt_eq] using h4.1) h7 ((wanted_some h1 (gslot_ops h2)).2 hb)
theorem RJ_CX (hT : TOk E.P TT) {ι : Type} {f : Nat} {ks nk : List Nat} {args : List SV} {mu1 : Mu} {φ : ι → Prop} {res : ι → List SV} {mu1' : ι → Mu} (C : ConX E.r E.P f ks args mu1 φ res mu1') {svs args' : List SV} {g : Option (Nat × Nat × Bool)} {t : Nat} {q : Ob} {es : List Prop} {gs : List GO} {md : Mu}
    (hc : callC E.N all fr gf o = some (f, svs, g, t, gf')) (hw : wkSL mu (keysO mu1) ks svs = some (args', q)) (ha : SVs.imp E.P args' args) (hnk : ∀ y, keysOf (mu1' y) = nk) (hs : splitO fr gf [] q [] [] = some (es, gs)) (hmd : mdropKs (appK (keysO mu1) nk) mu = some md) {fr' : Fr} {gf2 : GF} (hcut : cutKs (keysO mu1) fr gf' = some (fr', gf2))
    (k : ∀ y, φ y → RJ E all (KQ E.P R K) rest ((t, resS (res y)) :: fr') gf2 (appM (mu1' y) md))
    (hin : WkIn mu mu1 := by repeat (first | exact trivial | refine And.intro ⟨_, rfl, ro_arr⟩ ?_ | refine And.intro ⟨_, rfl, ro_ro⟩ ?_ | refine And.intro ⟨_, rfl, ro_row⟩ ?_ | refine And.intro ⟨_, rfl, Ch.imp_refl _⟩ ?_)) (hg : litG fr gf g := by first | exact trivial | exact ⟨rfl, rfl⟩) (hkeys : keysB ks nk mu1 fr gf mu E.A.ks [] = true := by exact rfl) (hout : ∀ y, (SV.inKL (appK ks nk) (res y) && muIn (appK ks nk) (mu1' y)) = true := by exact fun _ => rfl) (hen : Enters E.P f := by exact enters_B (by kernel_rfl)) (he : PAlls es := by repeat (first | exact trivial | refine And.intro rfl ?_)) (ho : GAlls gs := by first | exact trivial | ((simp only [GAlls, GO.p, InR]; (repeat' (first | exact trivial | refine And.intro ?_ ?_ | refine fun _ => ?_)) <;> first | omega | (simp only [decide_eq_true_eq, decide_eq_false_iff_not, Int.toNat_natCast] at *; omega) | (simp at *; omega)))) :
    RJ E all (KQ E.P R K) (o :: rest) fr gf mu :=
  RJ_of (OJ_CX (G := AG.nil) C hc hg hen hw ha hs he ho hin hnk hkeys hout hmd hcut fun y hy => SJ_of (k y hy))
end
end Go.Proofs.YthpjoddhlkcciaaGreat
namespace Go.Proofs.YthpjoddhlkcciaaGreat
open Go Go.RowKit
set_option linter.unusedVariables false
set_option linter.unusedSimpArgs false
set_option maxRecDepth 4000
def RH (r : PH) (p : RT) : Prop := D.rd r (dL 5 cNote GNote.z p.1.reads) (.slice p.2.1.1 p.2.1.2.1 p.2.1.2.2) ∧ D.rd r (dL 5 cSet GSet.z p.1.sets) (.slice p.2.2.1 p.2.2.2.1 p.2.2.2.2)
theorem RH.mono {r s : PH} (h : r.le s) {p : RT} (k : RH r p) : RH s p := ⟨D.rd_mono h _ k.1, D.rd_mono h _ k.2⟩
theorem rds_eT {r : PH} {t : GTx} {vs : List Value} (h : D.rds r (cTx t) vs) : ∃ p : RT, p.1 = t ∧ RH r p ∧ vs.map D.v = eT p := by
  obtain ⟨y1, t1, rfl, e1, y2, t2, rfl, e2, y3, t3, rfl, e3, y4, t4, rfl, e4, y5, t5, rfl, e5, y6, t6, rfl, e6, y7, t7, rfl, e7, rfl⟩ := h
  obtain ⟨A, c, rfl, _⟩ := id e5
  obtain ⟨A2, c2, rfl, _⟩ := id e6
  refine ⟨(t, (A, t.reads.length, c), (A2, t.sets.length, c2)), rfl, ⟨e5, e6⟩, ?_⟩
  rw [show y1 = .int .i64 t.id from e1, show y2 = .int .i64 t.home from e2, show y3 = .int .i64 t.phase from e3, show y4 = .int .i64 t.done from e4, show y7 = .int .i64 t.stamp from e7]
  rfl
theorem rd_eT {r : PH} {txs : List GTx} {y : Value} (h : D.rd r (dL 7 cTx GTx.z txs) y) : ∃ xs : List RT, xs.map (·.1) = txs ∧ (∀ i, i < xs.length → RH r (xs.getD i zT)) ∧ D.rd r (dL 7 eT zT xs) y := by
  obtain ⟨rw', h1, h2⟩ := rd_raw h
  have hp : ∀ i, ∃ p : RT, i < txs.length → p.1 = txs.getD i GTx.z ∧ RH r p ∧ (rw' i).map D.v = eT p := fun i => by
    by_cases hi : i < txs.length
    · obtain ⟨p, p1, p2, p3⟩ := rds_eT (h1 i hi).1
      exact ⟨p, fun _ => ⟨p1, p2, p3⟩⟩
    · exact ⟨zT, fun k => absurd k hi⟩
  obtain ⟨f, hf⟩ : ∃ f : Nat → RT, ∀ i, i < txs.length → (f i).1 = txs.getD i GTx.z ∧ RH r (f i) ∧ (rw' i).map D.v = eT (f i) := ⟨fun i => Classical.choose (hp i), fun i => Classical.choose_spec (hp i)⟩
  have hl : ((List.range txs.length).map f).length = txs.length := by simp
  have hg : ∀ i, i < txs.length → ((List.range txs.length).map f).getD i zT = f i := fun i hi => by simp [List.getD_eq_getElem?_getD, hi]
  refine ⟨(List.range txs.length).map f, ?_, fun i hi => ?_, ?_⟩
  · refine List.ext_getElem (by simp) fun i k1 k2 => ?_
    simp only [List.getElem_map, List.getElem_range]
    rw [(hf i k2).1]
    simp [List.getD_eq_getElem?_getD, k2]
  · rw [hl] at hi
    rw [hg i hi]; exact (hf i hi).2.1
  · have := D.rd_congr (g := fun i => eT (((List.range txs.length).map f).getD i zT)) (fun i hi => by rw [hg i hi]; exact (hf i hi).2.2) h2
    show D.rd r (.sl 7 ((List.range txs.length).map f).length fun i => eT (((List.range txs.length).map f).getD i zT)) y
    rw [hl]; exact this
def cRaw (c : GCluster) (xs : List RT) : List D := [dI c.config, dI c.clock, dL 1 cPlace GPlace.z c.places, dL 4 cMachine GMachine.z c.machines, dL 7 eT zT xs, dB c.lost]
section
variable {E : Env} {mu : Mu} {fr : Fr} {gf : GF} {R : Exit → Act → World → Prop} {K : List KF} {c : Code}
theorem T_tell (t : Nat) {ι : Type} {x : SV} {φ : ι → Prop} {x' : ι → SV} (ht : mlk t fr = some x) (hl : ∀ B H v, SV.rel E.P B (Zf E.r H) x v → ∃ y, φ y ∧ SV.rel E.P B (Zf E.r H) (x' y) v) (h : ∀ y, φ y → T E R c ((t, x' y) :: fr) mu K) : T E R c fr mu K := fun B a w H f m => by
  obtain ⟨y, h1, h2⟩ := hl B H _ (f.vfr t _ ht rfl)
  exact h y h1 B a w H (fit_put f t ht rfl fun _ => h2) m
theorem V_tell (t : Nat) {x x' : SV} (ht : mlk t fr = some x) (hg : glk t gf = none) (hl : ∀ B H v, SV.rel E.P B (Zf E.r H) x v → SV.rel E.P B (Zf E.r H) x' v) : View E fr gf mu ((t, x') :: fr) gf mu := fun B w H a ff m => ⟨B, H, fit_put ff t ht hg (hl B H _), m⟩
end
theorem tell_raw {P : Program} {B : BE} {Z : Tg → PH} {c : GCluster} {v : Value} (h : SV.rel P B Z (vR (cCluster c)) v) : ∃ xs : List RT, (xs.map (·.1) = c.txs ∧ ∀ i, i < xs.length → RH (Z .r) (xs.getD i zT)) ∧ SV.rel P B Z (vR (cRaw c xs)) v := by
  obtain ⟨vs, rfl, y1, t1, rfl, e1, y2, t2, rfl, e2, y3, t3, rfl, e3, y4, t4, rfl, e4, y5, t5, rfl, e5, h6⟩ := h
  obtain ⟨xs, x1, x2, x3⟩ := rd_eT (show D.rd (Z .r) (dL 7 cTx GTx.z c.txs) y5 from e5)
  exact ⟨xs, ⟨x1, x2⟩, _, rfl, y1, _, rfl, e1, y2, _, rfl, e2, y3, _, rfl, e3, y4, _, rfl, e4, y5, _, rfl, x3, h6⟩
end Go.Proofs.YthpjoddhlkcciaaGreat
namespace Go.Proofs.YthpjoddhlkcciaaGreat
open Go Go.RowKit
set_option linter.unusedVariables false
set_option linter.unusedSimpArgs false
set_option maxRecDepth 4000
noncomputable def pT (p : RT) : Bool := toldM p.1 == 1
theorem ordN_len {α : Type} {z : α} {key : α → Int} {p : α → Bool} {xs : List α} : ∀ n, (ordN key z p xs n).length ≤ n
  | 0 => Nat.le_refl _
  | n + 1 => by
    have h := ordN_len (key := key) (z := z) (p := p) (xs := xs) n
    rw [ordN]
    split
    · rw [(insL_perm (k := _) (x := _) (xs := _)).length_eq, List.length_cons]; omega
    · omega
theorem tell_tx {P : Program} {B : BE} {Z : Tg → PH} {p : RT} (h : RH (Z .r) p) {v : Value} (hv : SV.rel P B Z (vR (eT p)) v) : SV.rel P B Z (vR (cTx p.1)) v := by
  obtain ⟨vs, rfl, y1, t1, rfl, e1, y2, t2, rfl, e2, y3, t3, rfl, e3, y4, t4, rfl, e4, y5, t5, rfl, e5, y6, t6, rfl, e6, h7⟩ := hv
  refine ⟨_, rfl, y1, _, rfl, e1, y2, _, rfl, e2, y3, _, rfl, e3, y4, _, rfl, e4, y5, _, rfl, ?_, y6, _, rfl, ?_, h7⟩
  · have e5 : y5 = _ := e5
    show D.rd (Z .r) (dL 5 cNote GNote.z p.1.reads) y5
    rw [e5]; exact h.1
  · have e6 : y6 = _ := e6
    show D.rd (Z .r) (dL 5 cSet GSet.z p.1.sets) y6
    rw [e6]; exact h.2
theorem imp_ins3 {α : Type} {sz : Nat} {enc : α → List D} {z x : α} {k : Nat} {xs : List α} (h : k ≤ xs.length) {n : Nat} {f : Nat → List D} (hn : n = xs.length + 1) (hf : ∀ j, j < xs.length + 1 → f j = if j < k then enc (xs.getD j z) else if j < k + 1 then enc x else enc (xs.getD (j - 1) z)) : (Ch.arr sz n f).imp (arrC sz enc z (insL k x xs)) := by
  subst hn
  refine Ch.imp_len (by rw [insL_length h]) fun j hj => ?_
  rw [insL_getD h, hf j hj]
  split
  · rfl
  · split <;> rfl
set_option maxHeartbeats 2000000 in
theorem l13Order_x {r0 : PH} (c : GCluster) (xs : List RT) (hl : xs.length ≤ 60) (h2 : ∀ i, i < xs.length → RH r0 (xs.getD i zT)) :
    ConX r0 Tryz.prog 48 [] [vR (cRaw c xs)] [] (fun _ : Unit => True) (fun _ => [.a (.g 900)]) fun _ => [(900, arrC 7 eT zT (ordN kT zT pT xs xs.length))] := by
  refine conX_enter Tryz.func48 rfl rfl rfl fun B0 r_ D_ w0 hr => ?_
  refine T_auto TT_ok rfl ?_
  refine RJ_bs TT_ok 33 (fun i => eT (([] : List RT).getD i zT)) rfl rfl rfl rfl rfl rfl rfl (fun i hi => absurd hi (Nat.not_lt_zero _)) (mu1 := []) rfl rfl rfl ?_
  refine RJ_auto TT_ok rfl ?_
  refine T_loopA (ι := Nat) (fun i => [(4, vI i), (3, .a (.g 33))]) (fun i => [(33, arrC 7 eT zT (ordN kT zT pT xs i))]) (fun i => i ≤ xs.length) (fun i => xs.length - i) 0 [33] [33] rfl rfl (Nat.zero_le _) (by repeat (first | exact trivial | refine And.intro ⟨_, rfl, SV.imp_refl _⟩ ?_)) (by repeat (first | exact trivial | refine And.intro ⟨_, rfl, Ch.imp_refl _⟩ ?_)) ?_
  intro i h1
  have hlo := ordN_len (key := kT) (z := zT) (p := pT) (xs := xs) i
  refine T_auto TT_ok rfl ?_
  refine T_condD rfl (fun e => ?_) (fun e => ?_)
  · have hi : i < xs.length := by omega
    refine T_auto TT_ok rfl ?_
    refine RJ_view (V_tell 21 rfl rfl (fun B H v hv => tell_tx (p := xs.getD i zT) (RH.mono hr (h2 i hi)) hv)) ?_
    refine RJ_Q TT_ok (specTold_q (xs.getD i zT).1) rfl rfl rfl rfl rfl ?_
    refine T_condN rfl (fun e2 => ?_) (fun e2 => ?_)
    · have hp : ordN kT zT pT xs (i + 1) = ordN kT zT pT xs i := by
        rw [ordN, if_neg]
        intro h
        exact e2 (show toldM (xs.getD i zT).1 = 1 from eq_of_beq h)
      refine T_auto TT_ok rfl ?_
      exact X_inv (i + 1) hi (by omega) (by repeat (first | exact trivial | refine And.intro ⟨_, rfl, SV.imp_refl _⟩ ?_)) ⟨⟨_, rfl, Ch.imp_of (by rw [hp])⟩, (by repeat (first | exact trivial | refine And.intro ⟨_, rfl, Ch.imp_refl _⟩ ?_))⟩
    have hp : ordN kT zT pT xs (i + 1) = insL (putI kT zT (xs.getD i zT) (ordN kT zT pT xs i) (ordN kT zT pT xs i).length) (xs.getD i zT) (ordN kT zT pT xs i) := by
      rw [ordN, if_pos]
      have e2 : toldM (xs.getD i zT).1 = 1 := e2
      show (toldM (xs.getD i zT).1 == 1) = true
      rw [e2]; rfl
    generalize ordN kT zT pT xs i = out at hlo hp ⊢
    refine T_auto TT_ok rfl ?_
    refine T_loopA (ι := Nat) (fun k => [(6, vI k)]) (fun _ => []) (fun k => k ≤ out.length ∧ putI kT zT (xs.getD i zT) out out.length = putI kT zT (xs.getD i zT) out k) (fun k => k) out.length [] [] rfl rfl ⟨Nat.le_refl _, rfl⟩ (by repeat (first | exact trivial | refine And.intro ⟨_, rfl, SV.imp_refl _⟩ ?_)) (by repeat (first | exact trivial | refine And.intro ⟨_, rfl, Ch.imp_refl _⟩ ?_)) ?_
    intro k ⟨k1, k2⟩
    refine T_auto TT_ok rfl ?_
    have hk0 : ((k : Int) - 1).toNat = k - 1 := by omega
    refine T_drawL TT_ok [] [0, 1, 2, 3, 4, 5, 6, 7, 8, 9, 10, 11, 12] rfl rfl fun B0 H0 => ?_
    refine DJ_endA TT_ok rfl ?_
    rw [hk0]
    refine T_cond (b := decide (0 < k ∧ kT (out.getD (k - 1) zT) > kT (xs.getD i zT))) (congrArg (fun b => some (vB b)) (band (by constructor <;> rintro ⟨p1, p2⟩ <;> exact ⟨by omega, p2⟩))) (fun e3 => ?_) (fun e3 => ?_)
    · have e3 := of_decide_eq_true e3
      refine T_auto TT_ok rfl ?_
      refine X_inv (k - 1) ⟨by omega, ?_⟩ (by omega) ⟨⟨_, rfl, SV.imp_of (vI_eq (by omega))⟩, (by repeat (first | exact trivial | refine And.intro ⟨_, rfl, SV.imp_refl _⟩ ?_))⟩ (by repeat (first | exact trivial | refine And.intro ⟨_, rfl, Ch.imp_refl _⟩ ?_))
      rw [k2]
      obtain ⟨m, rfl⟩ : ∃ m, k = m + 1 := ⟨k - 1, by omega⟩
      rw [putI, if_pos (show kT (out.getD m zT) > kT (xs.getD i zT) from e3.2)]; rfl
    have e3 := of_decide_eq_false e3
    have hk : putI kT zT (xs.getD i zT) out out.length = k := by
      rw [k2]
      cases k with
      | zero => rfl
      | succ m => rw [putI, if_neg (show ¬ kT (out.getD m zT) > kT (xs.getD i zT) from fun h => e3 ⟨Nat.succ_pos _, h⟩)]
    rw [hk] at hp
    refine T_auto TT_ok rfl ?_
    refine RJ_bs TT_ok 41 (fun i => eT (([] : List RT).getD i zT)) rfl rfl rfl rfl rfl rfl rfl (fun i hi => absurd hi (Nat.not_lt_zero _)) (mu1 := []) rfl rfl rfl ?_
    refine RJ_auto TT_ok rfl ?_
    refine RJ_appC TT_ok 41 45 rfl rfl rfl rfl rfl rfl rfl rfl rfl rfl rfl rfl ⟨by simp; omega, by unfold maxL; omega⟩ ?_ (hob := ⟨rfl, ⟨by omega, by omega, by omega⟩, trivial⟩)
    refine RJ_auto TT_ok rfl ?_
    refine RJ_bs TT_ok 48 (fun _ => eT (xs.getD i zT)) rfl rfl rfl rfl rfl rfl rfl (fun i hi => by rcases i with _ | i <;> first | rfl | omega) (mu1 := []) rfl rfl rfl ?_
    refine RJ_auto TT_ok rfl ?_
    refine RJ_appM TT_ok 45 48 49 rfl rfl rfl rfl rfl rfl rfl rfl rfl rfl rfl rfl ⟨by simp; omega, by unfold maxL; omega⟩ ?_
    refine RJ_auto TT_ok rfl ?_
    refine RJ_appC TT_ok 49 54 rfl rfl rfl rfl rfl rfl rfl rfl rfl rfl rfl rfl ⟨by simp; omega, by unfold maxL; omega⟩ ?_ (hob := ⟨rfl, ⟨by omega, by omega, by omega⟩, trivial⟩)
    refine RJ_auto TT_ok rfl ?_
    refine X_view (V_sw 33 54) ?_
    refine X_inv (i + 1) hi (by omega) (by repeat (first | exact trivial | refine And.intro ⟨_, rfl, SV.imp_refl _⟩ ?_)) ⟨⟨_, rfl, ?_⟩, (by repeat (first | exact trivial | refine And.intro ⟨_, rfl, Ch.imp_refl _⟩ ?_))⟩
    rw [hp]
    have hkl := putI_le (key := kT) (z := zT) (t := xs.getD i zT) (out := out) out.length
    have hn0 : 0 + ((k : Int) - 0).toNat = k := by omega
    refine imp_ins3 (z := zT) (x := xs.getD i zT) (by omega) (by omega) fun j hj => ?_
    rw [hn0]
    by_cases a : j < k
    · rw [if_pos a, appD_lt (by omega), appD_lt a, appD_ge (Nat.zero_le _)]
      show eT (out.getD (Int.toNat 0 + (j - 0)) zT) = _
      rw [show Int.toNat 0 + (j - 0) = j by omega]
    · rw [if_neg a]
      by_cases b : j < k + 1
      · rw [if_pos b, appD_lt b, appD_ge (by omega)]
      · rw [if_neg b, appD_ge (by omega)]
        show eT (out.getD ((k : Int).toNat + (j - (k + 1))) zT) = _
        rw [show (k : Int).toNat + (j - (k + 1)) = j - 1 by omega]
  · have hi : i = xs.length := by omega
    subst hi
    refine T_auto TT_ok rfl ?_
    refine T_view (V_sw 33 900) ?_
    refine T_ret TT_ok (()) [(2, none)] rfl rfl ?_ ?_ ?_
    · exact SVs.imp_refl _
    · exact ⟨⟨_, rfl, Ch.imp_refl _⟩, trivial⟩
    · trivial
end Go.Proofs.YthpjoddhlkcciaaGreat
namespace Go.Proofs.YthpjoddhlkcciaaGreat
open Go Go.RowKit
set_option linter.unusedVariables false
set_option linter.unusedSimpArgs false
set_option maxRecDepth 4000
theorem getD_map {α γ : Type} (f : α → γ) (z : α) (xs : List α) (i : Nat) : (xs.map f).getD i (f z) = f (xs.getD i z) := by
  simp only [List.getD_eq_getElem?_getD, List.getElem?_map]
  cases xs[i]? <;> rfl
theorem putI_map {α γ : Type} (f : α → γ) {z t : α} {key : α → Int} {key' : γ → Int} (hk : ∀ x, key x = key' (f x)) (out : List α) : ∀ n, putI key z t out n = putI key' (f z) (f t) (out.map f) n
  | 0 => rfl
  | n + 1 => by rw [putI, putI, putI_map f hk out n, getD_map, hk, hk]
theorem ordN_map {α γ : Type} (f : α → γ) {z : α} {key : α → Int} {key' : γ → Int} (hk : ∀ x, key x = key' (f x)) {p : α → Bool} {p' : γ → Bool} (hp : ∀ x, p x = p' (f x)) (xs : List α) : ∀ n, (ordN key z p xs n).map f = ordN key' (f z) p' (xs.map f) n
  | 0 => rfl
  | n + 1 => by
    have ih := ordN_map f hk hp xs (z := z) n
    rw [ordN, ordN, getD_map, ← hp]
    split
    · rw [← ih, ← putI_map f hk, List.length_map]
      unfold insL
      rw [List.map_append, List.map_cons, List.map_take, List.map_drop]
    · exact ih
noncomputable def ordC (c : GCluster) : List GTx := ordN (·.stamp) GTx.z (fun t => toldM t == 1) c.txs c.txs.length
theorem ordC_raw {c : GCluster} {xs : List RT} (h : xs.map (·.1) = c.txs) : (ordN kT zT pT xs xs.length).map (·.1) = ordC c := by
  have := ordN_map (α := RT) (γ := GTx) (fun x => x.1) (z := zT) (key := kT) (key' := fun t => t.stamp) (p := pT) (p' := fun t => toldM t == 1) (fun _ => rfl) (fun _ => rfl) xs xs.length
  refine this.trans ?_
  unfold ordC
  rw [← h, List.length_map]
theorem rds_back {r : PH} {p : RT} (h : RH r p) {vs : List Value} (hv : D.rds r (eT p) vs) : D.rds r (cTx p.1) vs := by
  obtain ⟨y1, t1, rfl, e1, y2, t2, rfl, e2, y3, t3, rfl, e3, y4, t4, rfl, e4, y5, t5, rfl, e5, y6, t6, rfl, e6, h7⟩ := hv
  have e5 : y5 = _ := e5
  have e6 : y6 = _ := e6
  subst e5 e6
  exact ⟨y1, _, rfl, e1, y2, _, rfl, e2, y3, _, rfl, e3, y4, _, rfl, e4, _, _, rfl, h.1, _, _, rfl, h.2, h7⟩
theorem tell_back {P : Program} {B : BE} {Z : Tg → PH} {c : GCluster} {xs : List RT} (h1 : xs.map (·.1) = c.txs) (h2 : ∀ i, i < xs.length → RH (Z .r) (xs.getD i zT)) {v : Value} (hv : SV.rel P B Z (vR (cRaw c xs)) v) : SV.rel P B Z (vR (cCluster c)) v := by
  obtain ⟨vs, rfl, y1, t1, rfl, e1, y2, t2, rfl, e2, y3, t3, rfl, e3, y4, t4, rfl, e4, y5, t5, rfl, e5, h6⟩ := hv
  refine ⟨_, rfl, y1, _, rfl, e1, y2, _, rfl, e2, y3, _, rfl, e3, y4, _, rfl, e4, y5, _, rfl, ?_, h6⟩
  obtain ⟨A, cc, k1, k2, k3, k4⟩ := (show D.rd (Z .r) (.sl 7 xs.length fun i => eT (xs.getD i zT)) y5 from e5)
  have hl : xs.length = c.txs.length := by rw [← h1, List.length_map]
  show D.rd (Z .r) (.sl 7 c.txs.length fun i => cTx (c.txs.getD i GTx.z)) y5
  rw [hl] at k1 k2 k3 k4
  refine ⟨A, cc, k1, k2, k3, k4.imp id fun ⟨b, o, q1, q2⟩ => ⟨b, o, q1, fun i hi => ?_⟩⟩
  obtain ⟨row, r1, r2, r3⟩ := q2 i hi
  refine ⟨row, ?_, r2, r3⟩
  have := rds_back (h2 i (by omega)) r1
  show D.rds (Z .r) (cTx (c.txs.getD i GTx.z)) row
  rwa [show c.txs.getD i GTx.z = (xs.getD i zT).1 from by rw [← h1]; exact getD_map (·.1) zT xs i]
end Go.Proofs.YthpjoddhlkcciaaGreat
namespace Go.Proofs.YthpjoddhlkcciaaGreat
open Go Go.RowKit
set_option linter.unusedVariables false
set_option linter.unusedSimpArgs false
set_option maxRecDepth 4000
theorem cm_mem {l : List Int} : ∀ {k : Nat}, k ≤ l.length → ∀ x, x ∈ cmI l k ↔ x ∈ l.take k
  | 0, _, x => by simp [cmI]
  | k + 1, hk, x => by
    have ih := cm_mem (l := l) (k := k) (by omega) x
    rw [take_succ_getD (z := 0) (by omega), cmI]
    split
    · simp only [List.mem_append, ih]
    · rename_i h
      simp only [List.mem_append, List.mem_singleton]
      rw [ih]
      constructor
      · exact .inl
      · rintro (h1 | h1)
        · exact h1
        · subst h1
          have h0 : k ≠ 0 := fun e => h (.inl e)
          have h2 : l.getD k 0 = l.getD (k - 1) 0 := by
            by_cases c : l.getD k 0 = l.getD (k - 1) 0
            · exact c
            · exact absurd (.inr c) h
          rw [h2, List.mem_iff_getElem]
          exact ⟨k - 1, by rw [List.length_take]; omega, by simp [List.getD_eq_getElem?_getD, List.getElem?_eq_getElem (show k - 1 < l.length by omega)]⟩
end Go.Proofs.YthpjoddhlkcciaaGreat
namespace Go.Proofs.YthpjoddhlkcciaaGreat
open Go Go.RowKit
set_option linter.unusedVariables false
set_option linter.unusedSimpArgs false
set_option maxRecDepth 4000
structure GCopyAt where
  region : Int
  machine : Int
  backup : Bool
def GCopyAt.z : GCopyAt := ⟨0, 0, false⟩
abbrev placeM (c : GCluster) (r : Int) : List Int := (c.places.getD r.toNat GPlace.z).machines
abbrev wantsL (t : GTx) : List Int := cmI (regsOf t) (regsOf t).length
def rowP (b : Bool) (r : Int) (ms : List Int) : Nat → List GCopyAt
  | 0 => []
  | i + 1 => bif (bif decide ((i : Int) > 0) then true else !b) then rowP b r ms i ++ [⟨r, ms.getD i 0, decide ((i : Int) > 0)⟩] else rowP b r ms i
def copN (c : GCluster) (ws : List Int) (b : Bool) : Nat → List GCopyAt
  | 0 => []
  | k + 1 => copN c ws b k ++ rowP b (ws.getD k 0) (placeM c (ws.getD k 0)) (placeM c (ws.getD k 0)).length
def copiesP (c : GCluster) (t : GTx) (b : Bool) : List GCopyAt := copN c (wantsL t) b (wantsL t).length
theorem mem_wants {t : GTx} {r : Int} (h : r ∈ wantsL t) : ∃ s ∈ t.sets, s.region = r := by
  have h1 := (cm_mem (l := regsOf t) (Nat.le_refl _) r).1 h
  rw [List.take_length] at h1
  obtain ⟨s, h2, h3⟩ := List.mem_map.1 h1
  exact ⟨s, h2, h3⟩
theorem wants_in {c : GCluster} {t : GTx} (ht : TxIn c t) {k : Nat} (hk : k < (wantsL t).length) : 0 ≤ (wantsL t).getD k 0 ∧ (wantsL t).getD k 0 < c.places.length := by
  obtain ⟨s, h1, h2⟩ := mem_wants (mem_getD hk)
  obtain ⟨j, hj, rfl⟩ := List.mem_iff_getElem.1 h1
  have := ht.set j hj
  rw [show t.sets.getD j GSet.z = t.sets[j] from by simp [hj], h2] at this
  exact this
theorem place_le {c : GCluster} (hok : ClusOk c) {r : Int} (hr : 0 ≤ r ∧ r < c.places.length) : 1 ≤ (placeM c r).length ∧ (placeM c r).length ≤ 3 := hok.pl (r := r.toNat) (by omega)
def primP (c : GCluster) (r : Int) : GCopyAt := ⟨r, mAt c r.toNat 0, false⟩
def planL (c : GCluster) (t : GTx) : List GCopyAt :=
  if t.phase = 3 then (checksL t).map fun n => primP c n.region
  else if t.phase = 4 then copiesP c t true
  else if t.phase = 6 then copiesP c t false
  else if t.phase = 1 ∨ t.phase = 7 ∨ t.phase = 9 then []
  else (wantsL t).map (primP c)
theorem rowP_mem {b : Bool} {r : Int} {ms : List Int} {x : GCopyAt} : ∀ {i : Nat}, i ≤ ms.length → x ∈ rowP b r ms i → ∃ j, j < i ∧ x = ⟨r, ms.getD j 0, decide ((j : Int) > 0)⟩
  | 0, _, h => by cases h
  | i + 1, hi, h => by
    rw [rowP] at h
    have go : x ∈ rowP b r ms i → ∃ j, j < i + 1 ∧ x = ⟨r, ms.getD j 0, decide ((j : Int) > 0)⟩ := fun h => by
      obtain ⟨j, h1, h2⟩ := rowP_mem (by omega) h; exact ⟨j, by omega, h2⟩
    cases c : (bif decide ((i : Int) > 0) then true else !b) with
    | false => rw [c] at h; exact go h
    | true =>
      rw [c] at h
      rcases List.mem_append.1 h with h | h
      · exact go h
      · exact ⟨i, by omega, by simpa using h⟩
structure AtIn (c : GCluster) (x : GCopyAt) : Prop where
  region : 0 ≤ x.region ∧ x.region < c.places.length
  at' : ∃ j, j < (placeM c x.region).length ∧ x.machine = mAt c x.region.toNat j ∧ x.backup = decide ((j : Int) > 0)
theorem primP_in {c : GCluster} (hok : ClusOk c) {r : Int} (hr : 0 ≤ r ∧ r < c.places.length) : AtIn c (primP c r) := ⟨hr, 0, by have := place_le hok hr; show 0 < (placeM c r).length; omega, rfl, rfl⟩
theorem copN_in {c : GCluster} {ws : List Int} (hw : ∀ k, k < ws.length → 0 ≤ ws.getD k 0 ∧ ws.getD k 0 < c.places.length) {b : Bool} {x : GCopyAt} : ∀ {k : Nat}, k ≤ ws.length → x ∈ copN c ws b k → AtIn c x
  | 0, _, h => by cases h
  | k + 1, hk, h => by
    rw [copN] at h
    rcases List.mem_append.1 h with h | h
    · exact copN_in hw (by omega) h
    · obtain ⟨j, h1, rfl⟩ := rowP_mem (Nat.le_refl _) h
      exact ⟨hw k (by omega), j, h1, rfl, rfl⟩
theorem planL_in {c : GCluster} (hok : ClusOk c) {t : GTx} (ht : TxIn c t) : ∀ x ∈ planL c t, AtIn c x := fun x h => by
  unfold planL at h
  split at h
  · obtain ⟨n, h1, rfl⟩ := List.mem_map.1 h
    obtain ⟨k, hk, rfl⟩ := List.mem_iff_getElem.1 h1
    have := checksL_in ht hk
    rw [show (checksL t).getD k GNote.z = (checksL t)[k] from by simp [hk]] at this
    exact primP_in hok this
  · split at h
    · exact copN_in (fun k hk => wants_in ht hk) (Nat.le_refl _) h
    · split at h
      · exact copN_in (fun k hk => wants_in ht hk) (Nat.le_refl _) h
      · split at h
        · cases h
        · obtain ⟨r, h1, rfl⟩ := List.mem_map.1 h
          obtain ⟨k, hk, rfl⟩ := List.mem_iff_getElem.1 h1
          have := wants_in ht hk
          rw [show (wantsL t).getD k 0 = (wantsL t)[k] from by simp [hk]] at this
          exact primP_in hok this
def stopP (c : GCluster) (t : GTx) : Prop := t.phase = 7 ∨ t.phase = 9 ∨ t.done < (planL c t).length
instance (c : GCluster) (t : GTx) : Decidable (stopP c t) := inferInstanceAs (Decidable (_ ∨ _ ∨ _))
structure Same (t u : GTx) : Prop where
  id : u.id = t.id
  home : u.home = t.home
  reads : u.reads = t.reads
  sets : u.sets = t.sets
theorem Same.refl (t : GTx) : Same t t := ⟨rfl, rfl, rfl, rfl⟩
theorem Same.trans {t u w : GTx} (h : Same t u) (k : Same u w) : Same t w := ⟨k.id.trans h.id, k.home.trans h.home, k.reads.trans h.reads, k.sets.trans h.sets⟩
def setCells (m : GMachine) (r : Int) (xs : List GCell) : GMachine := { m with copies := m.copies.set (idxI (atB r) m.copies).toNat ⟨(m.copies.getD (idxI (atB r) m.copies).toNat GCopy.z).region, xs⟩ }
def planA (c : GCluster) (t : GTx) : GCopyAt := (planL c t).getD t.done.toNat GCopyAt.z
end Go.Proofs.YthpjoddhlkcciaaGreat
namespace Go.Proofs.YthpjoddhlkcciaaGreat
open Go Go.RowKit
set_option linter.unusedVariables false
set_option linter.unusedSimpArgs false
set_option maxRecDepth 4000
theorem bif_or_false {a b : Bool} : (bif a then true else b) = false ↔ a = false ∧ b = false := by cases a <;> simp
theorem map_set {α β : Type} (f : α → β) (xs : List α) (i : Nat) (y : α) : (xs.set i y).map f = (xs.map f).set i (f y) := by
  simp
theorem setCells_regs (m : GMachine) (r : Int) (xs : List GCell) : (setCells m r xs).copies.map GCopy.region = m.copies.map GCopy.region := by
  unfold setCells
  dsimp only
  rw [map_set]
  apply List.ext_getElem
  · simp
  · intro i h1 h2
    rw [List.getElem_set]
    split
    · rename_i e
      subst e
      simp only [List.length_set, List.length_map] at h1 h2
      simp [h2]
    · rfl
theorem has_regs (m : GMachine) (r : Int) : hasB m r = (m.copies.map GCopy.region).any (· == r) := by
  unfold hasB
  rw [List.any_map]
  rfl
theorem setCells_has (m : GMachine) (r q : Int) (xs : List GCell) : hasB (setCells m r xs) q = hasB m q := by rw [has_regs, has_regs, setCells_regs]
theorem setCells_len (m : GMachine) (r : Int) (xs : List GCell) : (setCells m r xs).copies.length = m.copies.length := by unfold setCells; simp
theorem setCells_ok {m : GMachine} (h : MachOk m) {r : Int} {xs : List GCell} (hx : cellsB xs = true) : MachOk (setCells m r xs) := by
  refine ⟨⟨by rw [setCells_len]; exact h.1.1, h.1.2.1, h.1.2.2⟩, h.2.1, fun j hj => ?_, h.2.2.2⟩
  rw [setCells_len] at hj
  have h1 := h.2.2.1 j hj
  have hreg : ∀ i, ((setCells m r xs).copies.getD i GCopy.z).region = (m.copies.getD i GCopy.z).region := fun i => by
    have e := congrArg (fun l => l.getD i 0) (setCells_regs m r xs)
    simp only [List.getD_eq_getElem?_getD, List.getElem?_map] at e ⊢
    cases c1 : (setCells m r xs).copies[i]? <;> cases c2 : m.copies[i]? <;> rw [c1, c2] at e <;> first | exact e | rfl
  unfold badCopy at h1 ⊢
  rw [hreg, hreg]
  obtain ⟨g1, g2⟩ := bif_or_false.1 h1
  obtain ⟨g3, g4⟩ := bif_or_false.1 g1
  refine bif_or_false.2 ⟨bif_or_false.2 ⟨g3, ?_⟩, g2⟩
  unfold setCells
  dsimp only
  by_cases c : j = (idxI (atB r) m.copies).toNat
  · subst c
    rw [show ((m.copies.set (idxI (atB r) m.copies).toNat ⟨(m.copies.getD (idxI (atB r) m.copies).toNat GCopy.z).region, xs⟩).getD (idxI (atB r) m.copies).toNat GCopy.z) = ⟨(m.copies.getD (idxI (atB r) m.copies).toNat GCopy.z).region, xs⟩ from by simp [List.getD_eq_getElem?_getD, hj]]
    dsimp only
    rw [hx]; rfl
  · rw [show ((m.copies.set (idxI (atB r) m.copies).toNat ⟨(m.copies.getD (idxI (atB r) m.copies).toNat GCopy.z).region, xs⟩).getD j GCopy.z) = m.copies.getD j GCopy.z from by
      simp only [List.getD_eq_getElem?_getD]; rw [List.getElem?_set_ne (Ne.symm c)]]
    exact g4
theorem rowP_reg {b : Bool} {r : Int} {ms : List Int} {x : GCopyAt} {i : Nat} (hi : i ≤ ms.length) (h : x ∈ rowP b r ms i) : x.region = r := by
  obtain ⟨j, _, rfl⟩ := rowP_mem hi h; rfl
theorem copN_reg {c : GCluster} {ws : List Int} {b : Bool} {x : GCopyAt} : ∀ {k : Nat}, k ≤ ws.length → x ∈ copN c ws b k → x.region ∈ ws
  | 0, _, h => by cases h
  | k + 1, hk, h => by
    rw [copN] at h
    rcases List.mem_append.1 h with h | h
    · exact copN_reg (by omega) h
    · rw [rowP_reg (Nat.le_refl _) h]; exact mem_getD hk
theorem planL_wants {c : GCluster} {t : GTx} (h3 : t.phase ≠ 3) {x : GCopyAt} (h : x ∈ planL c t) : x.region ∈ wantsL t := by
  unfold planL at h
  rw [if_neg h3] at h
  split at h
  · exact copN_reg (Nat.le_refl _) h
  · split at h
    · exact copN_reg (Nat.le_refl _) h
    · split at h
      · cases h
      · obtain ⟨r, h1, rfl⟩ := List.mem_map.1 h
        exact h1
theorem TxIn.same {c : GCluster} {t u : GTx} (h : TxIn c t) (hs : Same t u) (h4 : 1 ≤ u.phase ∧ u.phase ≤ 9) (h5 : 0 ≤ u.done ∧ u.done ≤ 1000) (h6 : 0 ≤ u.stamp ∧ u.stamp ≤ 1000000) : TxIn c u := by
  obtain ⟨⟨g1, g2, g3⟩, hh, hn, hst⟩ := h
  refine ⟨?_, by rw [hs.home]; exact hh, by rw [hs.reads]; exact hn, by rw [hs.sets]; exact hst⟩
  unfold TxOk headOk
  rw [hs.id, hs.home, hs.reads, hs.sets]
  exact ⟨⟨g1.1, g1.2.1, h4, h5, h6, g1.2.2.2.2.2⟩, g2, g3⟩
structure Mid (c : GCluster) (i : Nat) (y : Int × GTx) : Prop where
  tx : TxIn c y.2
  same : Same (c.txs.getD i GTx.z) y.2
  stop : stopP c y.2
  phase : 2 ≤ y.2.phase ∧ y.2.phase ≤ 9
  clock : c.clock ≤ y.1 ∧ y.1 ≤ 1000000
  lock : y.2.phase = 2 → y.1 < 1000000
  stamp : 0 ≤ y.2.stamp ∧ y.2.stamp ≤ y.1
theorem Mid.done {c : GCluster} {i : Nat} {y : Int × GTx} (h : Mid c i y) (hn : ¬ (y.2.phase = 7 ∨ y.2.phase = 9)) : 0 ≤ y.2.done ∧ y.2.done.toNat < (planL c y.2).length := by
  have h1 := h.tx.ok.1.2.2.2.1
  rcases h.stop with e | e | e
  · exact absurd (.inl e) hn
  · exact absurd (.inr e) hn
  · omega
theorem Mid.at {c : GCluster} (hok : ClusOk c) {i : Nat} {y : Int × GTx} (h : Mid c i y) (hn : ¬ (y.2.phase = 7 ∨ y.2.phase = 9)) : AtIn c (planA c y.2) ∧ (y.2.phase ≠ 3 → (planA c y.2).region ∈ wantsL y.2) ∧ (planA c y.2).machine.toNat < c.machines.length ∧ 0 ≤ (planA c y.2).machine ∧
    ((c.machines.getD (planA c y.2).machine.toNat GMachine.z).alive = true → hasB (c.machines.getD (planA c y.2).machine.toNat GMachine.z) (planA c y.2).region = true) := by
  have hm : planA c y.2 ∈ planL c y.2 := getD_mem (h.done hn).2
  have h1 := planL_in hok h.tx _ hm
  obtain ⟨j, h2, h3, h4⟩ := h1.at'
  have h5 := hok.at (r := (planA c y.2).region.toNat) (k := j) (by have := h1.region; omega) h2
  rw [← h3, Int.toNat_of_nonneg h1.region.1] at h5
  have h6 := h5.2
  unfold machAt at h6
  rw [← h3] at h6
  exact ⟨h1, fun e => planL_wants e hm, by omega, h5.1.1, h6⟩
end Go.Proofs.YthpjoddhlkcciaaGreat
namespace Go.Proofs.YthpjoddhlkcciaaGreat
open Go Go.RowKit
set_option linter.unusedVariables false
set_option linter.unusedSimpArgs false
set_option maxRecDepth 4000
theorem pack_q (v : Int) (h : 0 ≤ v ∧ v ≤ 1000000) (u : Bool) : Ans Tryz.prog 96 [] [vI v, vB u, vB false] [] (vI (4 * v + (bif u then 2 else 0))) := by
  refine con_enter Tryz.func96 rfl rfl rfl fun B0 r_ D_ w0 => ?_
  refine T_auto TT_ok rfl ?_
  refine T_cond rfl (fun e => ?_) (fun e => ?_)
  · subst e
    refine T_auto TT_ok rfl ?_
    refine T_cond rfl (fun e => by cases e) (fun _ => ?_)
    refine T_auto TT_ok rfl ?_
    exact T_ansI TT_ok [(6, none)] rfl rfl (rfl)
  · subst e
    refine T_auto TT_ok rfl ?_
    refine T_cond rfl (fun e => by cases e) (fun _ => ?_)
    refine T_auto TT_ok rfl ?_
    exact T_ansI TT_ok [(6, none)] rfl rfl ((by simp))
theorem l1Head_q (v : Int) (h : 0 ≤ v ∧ v ≤ 1000000) (u : Bool) : Ans Tryz.prog 130 [] [vI v, vB u, vB false] [] (vI (4 * v + (bif u then 2 else 0))) := by
  refine con_enter Tryz.func130 rfl rfl rfl fun B0 r_ D_ w0 => ?_
  refine T_auto TT_ok rfl ?_
  refine T_cond rfl (fun e => ?_) (fun e => ?_)
  · subst e
    refine T_auto TT_ok rfl ?_
    refine T_cond rfl (fun e => by cases e) (fun _ => ?_)
    refine T_auto TT_ok rfl ?_
    exact T_ansI TT_ok [(6, none)] rfl rfl (rfl)
  · subst e
    refine T_auto TT_ok rfl ?_
    refine T_cond rfl (fun e => by cases e) (fun _ => ?_)
    refine T_auto TT_ok rfl ?_
    exact T_ansI TT_ok [(6, none)] rfl rfl ((by simp))
theorem cell_at {ys : List GCell} {s : GSet} (h : cellsB ys = true) (hs : setB s = true) : ys.length = 6 ∧ (0 ≤ s.slot ∧ s.slot ≤ 5) ∧ (0 ≤ s.version ∧ s.version ≤ 999999) ∧ headB (cellS ys s).head = true ∧ 0 ≤ (cellS ys s).head ∧ (cellS ys s).head ≤ 4000003 ∧ 0 ≤ (cellS ys s).head.tdiv 4 ∧ (cellS ys s).head.tdiv 4 ≤ 1000000 := by
  have h1 := cellsB_iff.1 h
  have h2 := setB_iff.1 hs
  have h3 := (badCell_iff.1 (h1.2 _ (cellS_mem h1.1 hs))).1
  have h4 : headB (cellS ys s).head = true := headB_iff.2 h3
  rw [tdiv_nn h3.1]
  exact ⟨h1.1, h2.2.1, h2.2.2.2, h4, h3.1, h3.2, by omega, by omega⟩
theorem install_k (xs : List GCell) (sets : List GSet) (hl : sets.length ≤ 1048576) (hx : cellsB xs = true) (hs : ∀ s ∈ sets, setB s = true) :
    Con Tryz.prog 97 [900] [.a (.g 900), vL 5 cSet GSet.z sets] [(900, arrC 2 cCell GCell.z xs)] (fun _ : Unit => True) (fun _ => []) fun _ => [(900, arrC 2 cCell GCell.z (instL xs sets))] := by
  refine con_enter Tryz.func97 rfl rfl rfl fun B0 r_ D_ w0 => ?_
  refine T_auto TT_ok rfl ?_
  refine T_loopA (ι := Nat) (fun i => [(9, vI i)]) (fun i => [(900, arrC 2 cCell GCell.z ((sets.take i).foldl instF xs))]) (fun i => i ≤ sets.length) (fun i => sets.length - i) 0 [900] [] rfl rfl (Nat.zero_le _) (by repeat (first | exact trivial | refine And.intro ⟨_, rfl, SV.imp_refl _⟩ ?_)) (by repeat (first | exact trivial | refine And.intro ⟨_, rfl, Ch.imp_refl _⟩ ?_)) ?_
  intro i h1
  refine T_auto TT_ok rfl ?_
  refine T_condD rfl (fun e => ?_) (fun e => ?_)
  · have hi : i < sets.length := by omega
    have hsb := hs _ (getD_mem (z := GSet.z) hi)
    have hy : cellsB ((sets.take i).foldl instF xs) = true := foldl_ok (fun _ _ => instF_ok) (fun s h => hs s (List.mem_of_mem_take h)) hx
    obtain ⟨c1, c2, c3, c4, c5, c6, c7, c8⟩ := cell_at hy hsb
    have hF := foldl_take (z := GSet.z) instF xs hi
    generalize hys : (sets.take i).foldl instF xs = ys at hy c1 c4 c5 c6 c7 c8 hF ⊢
    have hin : InR ((cellS ys (sets.getD i GSet.z)).head.tdiv 4) := tdiv_in c5 c6 (by decide)
    unfold cellS at c7 c8 hin
    refine T_auto TT_ok rfl ?_
    refine T_drawL TT_ok [] [0, 1, 2, 3, 4, 5, 6, 7, 8, 9] rfl rfl fun B0 H0 => ?_
    refine DJ_endA TT_ok rfl ?_
    refine T_condD rfl (fun e2 => ?_) (fun e2 => ?_)
    · refine T_auto TT_ok rfl ?_
      exact X_inv (i + 1) hi (by omega) (by repeat (first | exact trivial | refine And.intro ⟨_, rfl, SV.imp_refl _⟩ ?_)) ⟨⟨_, rfl, imp_list (by rw [hF]; unfold instF; rw [if_pos (show (cellS ys (sets.getD i GSet.z)).head.tdiv 4 > (sets.getD i GSet.z).version from e2)])⟩, (by repeat (first | exact trivial | refine And.intro ⟨_, rfl, Ch.imp_refl _⟩ ?_))⟩
    · have hN : instF ys (sets.getD i GSet.z) = ys.set (sets.getD i GSet.z).slot.toNat (instC (sets.getD i GSet.z)) := by unfold instF; rw [if_neg (show ¬ (cellS ys (sets.getD i GSet.z)).head.tdiv 4 > (sets.getD i GSet.z).version from e2)]
      refine T_auto TT_ok rfl ?_
      refine RJ_Q TT_ok (pack_q ((sets.getD i GSet.z).version + 1) ⟨by omega, by omega⟩ _) rfl rfl rfl rfl rfl ?_
      refine T_cond rfl (fun e3 => ?_) (fun e3 => ?_)
      · refine T_auto TT_ok rfl ?_
        exact X_inv (i + 1) hi (by omega) (by repeat (first | exact trivial | refine And.intro ⟨_, rfl, SV.imp_refl _⟩ ?_)) ⟨⟨_, rfl, by rw [hF, hN]; unfold instC; simp only [Int.toNat_natCast] at e3 ⊢; rw [e3]; exact imp_set (OwnI.refl _)⟩, (by repeat (first | exact trivial | refine And.intro ⟨_, rfl, Ch.imp_refl _⟩ ?_))⟩
      · refine T_auto TT_ok rfl ?_
        exact X_inv (i + 1) hi (by omega) (by repeat (first | exact trivial | refine And.intro ⟨_, rfl, SV.imp_refl _⟩ ?_)) ⟨⟨_, rfl, by rw [hF, hN]; unfold instC; simp only [Int.toNat_natCast] at e3 ⊢; rw [e3]; exact imp_set (OwnI.refl _)⟩, (by repeat (first | exact trivial | refine And.intro ⟨_, rfl, Ch.imp_refl _⟩ ?_))⟩
  · have hi : i = sets.length := by omega
    subst hi
    rw [List.take_length]
    refine T_exit rfl ?_
    refine X_fin TT_ok () [] rfl rfl ?_ ?_ ?_
    · exact SVs.imp_refl _
    · exact ⟨⟨_, rfl, Ch.imp_refl _⟩, trivial⟩
    · trivial
end Go.Proofs.YthpjoddhlkcciaaGreat
namespace Go.Proofs.YthpjoddhlkcciaaGreat
open Go Go.RowKit
set_option linter.unusedVariables false
set_option linter.unusedSimpArgs false
set_option maxRecDepth 4000
theorem spec_Version_q (h : Int) : Ans Tryz.prog 78 [] [vI h] [] (vI (verI h)) := by
  refine con_enter Tryz.func78 rfl rfl rfl fun B0 r_ D_ w0 => ?_
  refine T_auto TT_ok rfl ?_
  refine RJ_Q TT_ok (spec_HeadOk_q _) rfl rfl rfl rfl rfl ?_
  refine T_condX rfl (fun e => ?_) (fun e => ?_)
  · rw [show verI h = -1 from by unfold verI; rw [if_neg (by rw [show headB h = false from e]; simp)]]
    refine T_auto TT_ok rfl ?_
    exact T_ansI TT_ok [(2, none)] rfl rfl (rfl)
  · have hh := headB_iff.1 (show headB h = true from e)
    have hv : 0 ≤ h.tdiv 4 ∧ h.tdiv 4 ≤ 1000000 := by rw [Int.tdiv_eq_ediv_of_nonneg hh.1]; omega
    rw [show verI h = h.tdiv 4 from by unfold verI; rw [if_pos (show headB h = true from e)]]
    refine T_auto TT_ok rfl ?_
    exact T_ansI TT_ok [(2, none)] rfl rfl (rfl)
end Go.Proofs.YthpjoddhlkcciaaGreat
namespace Go.Proofs.YthpjoddhlkcciaaGreat
open Go Go.RowKit
set_option linter.unusedVariables false
set_option linter.unusedSimpArgs false
set_option maxRecDepth 4000
theorem l3Install_k (xs : List GCell) (sets : List GSet) (hl : sets.length ≤ 1048576) (hx : cellsB xs = true) (hs : ∀ s ∈ sets, setB s = true) :
    Con Tryz.prog 80 [900] [.a (.g 900), vL 5 cSet GSet.z sets] [(900, arrC 2 cCell GCell.z xs)] (fun _ : Unit => True) (fun _ => []) fun _ => [(900, arrC 2 cCell GCell.z (instL xs sets))] := by
  refine con_enter Tryz.func80 rfl rfl rfl fun B0 r_ D_ w0 => ?_
  refine T_auto TT_ok rfl ?_
  refine T_loopA (ι := Nat) (fun i => [(4, vI i)]) (fun i => [(900, arrC 2 cCell GCell.z ((sets.take i).foldl instF xs))]) (fun i => i ≤ sets.length) (fun i => sets.length - i) 0 [900] [] rfl rfl (Nat.zero_le _) (by repeat (first | exact trivial | refine And.intro ⟨_, rfl, SV.imp_refl _⟩ ?_)) (by repeat (first | exact trivial | refine And.intro ⟨_, rfl, Ch.imp_refl _⟩ ?_)) ?_
  intro i h1
  refine T_auto TT_ok rfl ?_
  refine T_condD rfl (fun e => ?_) (fun e => ?_)
  · have hi : i < sets.length := by omega
    have hsb := hs _ (getD_mem (z := GSet.z) hi)
    have hy : cellsB ((sets.take i).foldl instF xs) = true := foldl_ok (fun _ _ => instF_ok) (fun s h => hs s (List.mem_of_mem_take h)) hx
    obtain ⟨c1, c2, c3, c4, c5, c6, c7, c8⟩ := cell_at hy hsb
    have hF := foldl_take (z := GSet.z) instF xs hi
    generalize hys : (sets.take i).foldl instF xs = ys at hy c1 c4 c5 c6 c7 c8 hF ⊢
    have hV := ver4 c4
    unfold cellS at c7 c8 hV
    refine T_auto TT_ok rfl ?_
    refine T_drawL TT_ok [] [0, 1, 2, 3, 4, 5, 7, 8, 6, 9] rfl rfl fun B0 H0 => ?_
    refine DJ_Qi 6 (spec_Version_q _) rfl rfl rfl (SVs.imp_refl _) rfl ?_
    refine DJ_onL TT_ok [9] rfl ?_
    refine DJ_endA TT_ok rfl ?_
    refine T_condD rfl (fun e2 => ?_) (fun e2 => ?_)
    · simp only [Int.toNat_natCast] at e2
      rw [hV] at e2
      refine T_auto TT_ok rfl ?_
      exact X_inv (i + 1) hi (by omega) (by repeat (first | exact trivial | refine And.intro ⟨_, rfl, SV.imp_refl _⟩ ?_)) ⟨⟨_, rfl, imp_list (by rw [hF]; unfold instF; rw [if_pos (show (cellS ys (sets.getD i GSet.z)).head.tdiv 4 > (sets.getD i GSet.z).version from e2)])⟩, (by repeat (first | exact trivial | refine And.intro ⟨_, rfl, Ch.imp_refl _⟩ ?_))⟩
    · simp only [Int.toNat_natCast] at e2
      rw [hV] at e2
      have hN : instF ys (sets.getD i GSet.z) = ys.set (sets.getD i GSet.z).slot.toNat (instC (sets.getD i GSet.z)) := by unfold instF; rw [if_neg (show ¬ (cellS ys (sets.getD i GSet.z)).head.tdiv 4 > (sets.getD i GSet.z).version from e2)]
      refine T_auto TT_ok rfl ?_
      refine T_condX rfl (fun e3 => ?_) (fun e3 => ?_)
      · refine T_auto TT_ok rfl ?_
        refine T_drawL TT_ok [] [0, 1, 2, 3, 4, 5, 6, 7, 9, 8, 10, 11, 12] rfl rfl fun B0 H0 => ?_
        refine DJ_Qi 8 (l1Head_q ((sets.getD i GSet.z).version + 1) ⟨by omega, by omega⟩ _) rfl rfl rfl (SVs.imp_refl _) rfl ?_
        refine DJ_onL TT_ok [10, 11, 12] rfl ?_
        refine DJ_sw2 12 rfl (by kernel_rfl) (by kernel_rfl) (OJ_M TT_ok rfl rfl rfl rfl rfl rfl (SJ_sw [] fun B0 H0 => ?_))
        refine DJ_endA TT_ok rfl ?_
        exact X_inv (i + 1) hi (by omega) (by repeat (first | exact trivial | refine And.intro ⟨_, rfl, SV.imp_refl _⟩ ?_)) ⟨⟨_, rfl, by rw [hF, hN]; unfold instC; simp only [Int.toNat_natCast] at e3 ⊢; rw [e3]; exact imp_set (OwnI.refl _)⟩, (by repeat (first | exact trivial | refine And.intro ⟨_, rfl, Ch.imp_refl _⟩ ?_))⟩
      · refine T_auto TT_ok rfl ?_
        refine T_drawL TT_ok [] [0, 1, 2, 3, 4, 5, 6, 7, 9, 8, 10, 11, 12] rfl rfl fun B0 H0 => ?_
        refine DJ_Qi 8 (l1Head_q ((sets.getD i GSet.z).version + 1) ⟨by omega, by omega⟩ _) rfl rfl rfl (SVs.imp_refl _) rfl ?_
        refine DJ_onL TT_ok [10, 11, 12] rfl ?_
        refine DJ_sw2 12 rfl (by kernel_rfl) (by kernel_rfl) (OJ_M TT_ok rfl rfl rfl rfl rfl rfl (SJ_sw [] fun B0 H0 => ?_))
        refine DJ_endA TT_ok rfl ?_
        exact X_inv (i + 1) hi (by omega) (by repeat (first | exact trivial | refine And.intro ⟨_, rfl, SV.imp_refl _⟩ ?_)) ⟨⟨_, rfl, by rw [hF, hN]; unfold instC; simp only [Int.toNat_natCast] at e3 ⊢; rw [e3]; exact imp_set (OwnI.refl _)⟩, (by repeat (first | exact trivial | refine And.intro ⟨_, rfl, Ch.imp_refl _⟩ ?_))⟩
  · have hi : i = sets.length := by omega
    subst hi
    rw [List.take_length]
    refine T_exit rfl ?_
    refine X_fin TT_ok () [] rfl rfl ?_ ?_ ?_
    · exact SVs.imp_refl _
    · exact ⟨⟨_, rfl, Ch.imp_refl _⟩, trivial⟩
    · trivial
end Go.Proofs.YthpjoddhlkcciaaGreat
namespace Go.Proofs.YthpjoddhlkcciaaGreat
open Go Go.RowKit
set_option linter.unusedVariables false
set_option linter.unusedSimpArgs false
set_option maxRecDepth 4000
def cells0 : List GCell := List.replicate 6 GCell.z
theorem newCells_c : MkL Tryz.prog 77 [] 2 cCell GCell.z cells0 := by
  refine con_enter Tryz.func77 rfl rfl rfl fun B0 r_ D_ w0 => ?_
  refine T_auto TT_ok rfl ?_
  refine RJ_make TT_ok 900 6 rfl rfl rfl rfl rfl rfl rfl ⟨by decide, by decide⟩ ?_
  refine RJ_auto TT_ok rfl ?_
  refine T_ret TT_ok (()) [(0, none)] rfl rfl ?_ ?_ ?_
  · exact SVs.imp_refl _
  · exact ⟨⟨_, rfl, Ch.imp_len rfl fun i hi => by
      have : cells0.getD i GCell.z = GCell.z := by
        have h : i < 6 := hi
        rcases i with _ | _ | _ | _ | _ | _ | i <;> first | rfl | omega
      rw [this]; rfl⟩, trivial⟩
  · trivial
end Go.Proofs.YthpjoddhlkcciaaGreat
namespace Go.Proofs.YthpjoddhlkcciaaGreat
open Go Go.RowKit
set_option linter.unusedVariables false
set_option linter.unusedSimpArgs false
set_option maxRecDepth 4000
section
variable {E : Env} {B : BE} {mu mu' : Mu} {w : World} {H : Nat → PH} {TT : List TI} {fr fr' : Fr} {gf gf' : GF} {a : Act} {all rest : List Oper} {Q : Exit → Act → World → Prop} {o : Oper} {J : Act → World → Prop} {G : AG}
end
abbrev mOf (c : GCluster) (i : Int) : GMachine := c.machines.getD i.toNat GMachine.z
end Go.Proofs.YthpjoddhlkcciaaGreat
namespace Go.Proofs.YthpjoddhlkcciaaGreat
open Go Go.RowKit
set_option linter.unusedVariables false
set_option linter.unusedSimpArgs false
set_option maxRecDepth 4000
theorem set_self {α : Type} {z : α} {xs : List α} {i : Nat} (h : i < xs.length) : xs.set i (xs.getD i z) = xs := by
  rw [show xs.getD i z = xs[i] from by simp [h]]
  exact List.set_getElem_self h
end Go.Proofs.YthpjoddhlkcciaaGreat
namespace Go.Proofs.YthpjoddhlkcciaaGreat
open Go Go.RowKit
set_option linter.unusedVariables false
set_option linter.unusedSimpArgs false
set_option maxRecDepth 4000
theorem SV.imp_sl {P : Program} {sz n m : Nat} {f g : Nat → List D} (h : n = m) (e : ∀ i, i < n → f i = g i) : (SV.a (.s .r sz n f)).imp P (.a (.s .r sz m g)) := by
  subst h; exact SV.imp_s e
end Go.Proofs.YthpjoddhlkcciaaGreat
namespace Go.Proofs.YthpjoddhlkcciaaGreat
open Go Go.RowKit
set_option linter.unusedVariables false
set_option linter.unusedSimpArgs false
set_option maxRecDepth 4000
structure Like (ms ns : List GMachine) : Prop where
  len : ns.length = ms.length
  ok : ∀ j, j < ns.length → MachOk (ns.getD j GMachine.z) ∧ (ns.getD j GMachine.z).alive = (ms.getD j GMachine.z).alive ∧ ∀ q, hasB (ns.getD j GMachine.z) q = hasB (ms.getD j GMachine.z) q
theorem Like.refl {c : GCluster} (hok : ClusOk c) : Like c.machines c.machines := ⟨rfl, fun j hj => ⟨hok.2.2.1 j hj, rfl, fun _ => rfl⟩⟩
def cmpR (r : Int) (x : GCopy) : Int := x.region - r
noncomputable def replM (m : GMachine) (r : Int) (xs : List GCell) : GMachine :=
  if hasB m r = true then setCells m r xs else { m with copies := insL (posA (cmpR r) GCopy.z m.copies) ⟨r, xs⟩ m.copies }
structure RecIn (c d : GCluster) (i : Nat) : Prop where
  like : Like c.machines d.machines
  config : d.config = c.config
  clock : d.clock = c.clock
  places : d.places = c.places
  lost : d.lost = c.lost
  len : d.txs.length = c.txs.length
  rest : ∀ j, i ≤ j → d.txs.getD j GTx.z = c.txs.getD j GTx.z
  txs : ∀ j, j < c.txs.length → Same (c.txs.getD j GTx.z) (d.txs.getD j GTx.z) ∧ (1 ≤ (d.txs.getD j GTx.z).phase ∧ (d.txs.getD j GTx.z).phase ≤ 9) ∧ (0 ≤ (d.txs.getD j GTx.z).done ∧ (d.txs.getD j GTx.z).done ≤ 1000) ∧ (d.txs.getD j GTx.z).stamp = (c.txs.getD j GTx.z).stamp
theorem RecIn.ok {c d : GCluster} {i : Nat} (hok : ClusOk c) (h : RecIn c d i) : ClusOk d := by
  refine ⟨⟨by rw [h.config]; exact hok.1.1, by rw [h.clock]; exact hok.1.2.1, by rw [h.like.len]; exact hok.1.2.2.1, by rw [h.len]; exact hok.1.2.2.2⟩, by rw [h.places]; exact hok.2.1, fun j hj => (h.like.ok j hj).1, fun r hr k hk => ?_, fun j hj => ?_⟩
  · rw [h.places] at hr hk
    have g := hok.2.2.2.1 r hr k hk
    unfold badAt at g ⊢
    have e1 : mAt d r k = mAt c r k := by unfold mAt; rw [h.places]
    rw [e1, h.like.len]
    by_cases c1 : mAt c r k ≥ (c.machines.length : Int)
    · rw [decide_eq_true c1] at g; cases g
    · have c2 := (hok.at hr hk).1
      obtain ⟨_, q2, q3⟩ := h.like.ok (mAt c r k).toNat (by rw [h.like.len]; omega)
      rw [q2, q3]; exact g
  · rw [h.len] at hj
    have g := hok.2.2.2.2 j hj
    obtain ⟨hs, hp, hd, hst⟩ := h.txs j hj
    obtain ⟨k1, k2, k3⟩ := hok.tx hj
    rw [h.places]
    refine ⟨?_, by rw [hs.reads]; exact g.2.1, by rw [hs.sets]; exact g.2.2⟩
    have g1 := g.1
    unfold badTx at g1 ⊢
    rw [h.like.len, h.clock]
    obtain ⟨g2, g3⟩ := bif_or_false.1 g1
    obtain ⟨g4, g5⟩ := bif_or_false.1 g2
    obtain ⟨g6, g7⟩ := bif_or_false.1 g4
    refine bif_or_false.2 ⟨bif_or_false.2 ⟨bif_or_false.2 ⟨?_, ?_⟩, by rw [hs.home]; exact g5⟩, by rw [hst]; exact g3⟩
    · have ht : TxOk (d.txs.getD j GTx.z) := by
        unfold TxOk headOk
        rw [hs.id, hs.home, hs.reads, hs.sets, hst]
        exact ⟨⟨k1.1, k1.2.1, hp, hd, k1.2.2.2.2.1, k1.2.2.2.2.2⟩, k2, k3⟩
      rw [dec_true ht]; rfl
    · rw [hs.id]
      by_cases c1 : (j : Int) > 0
      · rw [decide_eq_true c1] at g7 ⊢
        have := (h.txs ((j : Int) - 1).toNat (by omega)).1.id
        rw [this]; exact g7
      · rw [decide_eq_false c1]; rfl
end Go.Proofs.YthpjoddhlkcciaaGreat
namespace Go.Proofs.YthpjoddhlkcciaaGreat
open Go Go.RowKit
set_option linter.unusedVariables false
set_option linter.unusedSimpArgs false
set_option maxRecDepth 4000
theorem PlOk.le {ps : List GPlace} (h : PlOk ps) {r k : Nat} (hr : r < ps.length) (hk : k < (ps.getD r GPlace.z).machines.length) : 0 ≤ (ps.getD r GPlace.z).machines.getD k 0 ∧ (ps.getD r GPlace.z).machines.getD k 0 ≤ 7 := by
  have := (h.2 r hr).2 k hk
  unfold badPl at this
  have h2 := (bif_or_false.1 this).1
  have h3 : inB ((ps.getD r GPlace.z).machines.getD k 0) 0 7 = true := by simpa using h2
  exact inB_iff.1 h3
end Go.Proofs.YthpjoddhlkcciaaGreat
namespace Go.Proofs.YthpjoddhlkcciaaGreat
open Go Go.RowKit
set_option linter.unusedVariables false
set_option linter.unusedSimpArgs false
set_option maxRecDepth 4000
theorem AtIn.mach {c : GCluster} (hok : ClusOk c) {x : GCopyAt} (h : AtIn c x) : (0 ≤ x.machine ∧ x.machine < c.machines.length) ∧ ((mOf c x.machine).alive = true → hasB (mOf c x.machine) x.region = true) := by
  obtain ⟨j, h2, h3, h4⟩ := h.at'
  have h5 := hok.at (r := x.region.toNat) (k := j) (by have := h.region; omega) h2
  rw [← h3, Int.toNat_of_nonneg h.region.1] at h5
  have h6 := h5.2
  unfold machAt at h6
  rw [← h3] at h6
  exact ⟨h5.1, h6⟩
end Go.Proofs.YthpjoddhlkcciaaGreat
namespace Go.Proofs.YthpjoddhlkcciaaGreat
open Go Go.RowKit
set_option linter.unusedVariables false
set_option linter.unusedSimpArgs false
set_option maxRecDepth 4000
theorem copies_pair {m : GMachine} (h : MachOk m) : m.copies.Pairwise fun a b => a.region < b.region := by
  have h3 : ∀ j, j + 1 < m.copies.length → (m.copies.getD j GCopy.z).region < (m.copies.getD (j + 1) GCopy.z).region := fun j hj => by
    have := (bif_or_false.1 (h.2.2.1 (j + 1) hj)).2
    rw [decide_eq_true (show ((j + 1 : Nat) : Int) > 0 by omega)] at this
    have := of_decide_eq_false this
    rw [show (((j + 1 : Nat) : Int) - 1).toNat = j by omega] at this
    omega
  refine pair_of (z := GCopy.z) fun a b hab hb => ?_
  induction b with
  | zero => omega
  | succ b ih =>
    have := h3 b hb
    by_cases c : a = b
    · subst c; exact this
    · have := ih (by omega) (by omega); omega
theorem cmpR_rising {m : GMachine} (h : MachOk m) (r : Int) : rising (cmpR r) GCopy.z m.copies := fun a b hab hb hc => by
  by_cases c : a = b
  · subst c; exact hc
  · have := pair_get (z := GCopy.z) (copies_pair h) (a := a) (b := b) (by omega) hb
    unfold cmpR at hc ⊢
    omega
end Go.Proofs.YthpjoddhlkcciaaGreat
namespace Go.Proofs.YthpjoddhlkcciaaGreat
open Go Go.RowKit
set_option linter.unusedVariables false
set_option linter.unusedSimpArgs false
set_option maxRecDepth 4000
theorem copies_iff {xs : List GCopy} : (∀ j, j < xs.length → badCopy xs j = false) ↔ (∀ x ∈ xs, (0 ≤ x.region ∧ x.region ≤ 5) ∧ cellsB x.cells = true) ∧ xs.Pairwise fun a b => a.region < b.region := by
  constructor
  · intro h
    refine ⟨all_getD (z := GCopy.z) fun i hi => ?_, pair_of (z := GCopy.z) fun a b hab hb => ?_⟩
    · have h1 := (bif_or_false.1 (bif_or_false.1 (h i hi)).1)
      exact ⟨inB_iff.1 (by simpa using h1.1), by simpa using h1.2⟩
    · have h3 : ∀ j, j + 1 < xs.length → (xs.getD j GCopy.z).region < (xs.getD (j + 1) GCopy.z).region := fun j hj => by
        have := (bif_or_false.1 (h (j + 1) hj)).2
        rw [decide_eq_true (show ((j + 1 : Nat) : Int) > 0 by omega)] at this
        have := of_decide_eq_false this
        rw [show (((j + 1 : Nat) : Int) - 1).toNat = j by omega] at this
        omega
      induction b with
      | zero => omega
      | succ b ih =>
        have := h3 b hb
        by_cases c : a = b
        · subst c; exact this
        · have := ih (by omega) (by omega); omega
  · rintro ⟨h1, h2⟩ j hj
    obtain ⟨h3, h4⟩ := h1 _ (getD_mem (z := GCopy.z) hj)
    unfold badCopy
    rw [inB_iff.2 h3, h4]
    by_cases c : (j : Int) > 0
    · rw [decide_eq_true c]
      have := pair_get (z := GCopy.z) h2 (a := ((j : Int) - 1).toNat) (b := j) (by omega) hj
      rw [decide_eq_false (by omega)]; rfl
    · rw [decide_eq_false c]; rfl
theorem rise_ge {xs : List GCopy} (h : xs.Pairwise fun a b => a.region < b.region) (h0 : ∀ x ∈ xs, 0 ≤ x.region) : ∀ j, j < xs.length → (j : Int) ≤ (xs.getD j GCopy.z).region
  | 0, hj => h0 _ (getD_mem (z := GCopy.z) hj)
  | j + 1, hj => by
    have ih := rise_ge h h0 j (by omega)
    have := pair_get (z := GCopy.z) h (a := j) (b := j + 1) (by omega) hj
    omega
theorem insL_mem {α : Type} {p : Nat} {x y : α} {xs : List α} : y ∈ insL p x xs ↔ y = x ∨ y ∈ xs := by
  unfold insL
  rw [List.mem_append, List.mem_cons]
  conv => rhs; rw [← List.take_append_drop p xs, List.mem_append]
  constructor
  · rintro (h | h | h)
    · exact .inr (.inl h)
    · exact .inl h
    · exact .inr (.inr h)
  · rintro (h | h | h)
    · exact .inr (.inl h)
    · exact .inl h
    · exact .inr (.inr h)
theorem insL_any {p : Nat} {x : GCopy} {xs : List GCopy} (q : Int) : (insL p x xs).any (atB q) = (atB q x || xs.any (atB q)) := by
  unfold insL
  rw [List.any_append, List.any_cons]
  conv => rhs; rw [← List.take_append_drop p xs, List.any_append]
  cases (xs.take p).any (atB q) <;> cases atB q x <;> cases (xs.drop p).any (atB q) <;> rfl
theorem replM_alive (m : GMachine) (r : Int) (xs : List GCell) : (replM m r xs).alive = m.alive := by unfold replM; split <;> rfl
theorem replM_has (m : GMachine) (r : Int) (xs : List GCell) (q : Int) : hasB (replM m r xs) q = (hasB m q || decide (q = r)) := by
  unfold replM
  split
  · rename_i h
    rw [setCells_has]
    by_cases c : q = r
    · subst c; rw [h]; rfl
    · rw [decide_eq_false c, Bool.or_false]
  · show (insL _ _ m.copies).any (atB q) = _
    rw [insL_any, Bool.or_comm]
    congr 1
    show (r == q) = decide (q = r)
    by_cases c : q = r
    · subst c; simp
    · rw [decide_eq_false c]; simp [Ne.symm c]
theorem replM_ok {m : GMachine} (h : MachOk m) {r : Int} (hr : 0 ≤ r ∧ r ≤ 5) {xs : List GCell} (hx : cellsB xs = true) : MachOk (replM m r xs) := by
  unfold replM
  split
  · exact setCells_ok h hx
  · rename_i hh
    have hh : hasB m r = false := by simpa using hh
    have hc := posA_cut (cmpR_rising h r)
    generalize posA (cmpR r) GCopy.z m.copies = p at hc
    obtain ⟨c1, c2⟩ := copies_iff.1 h.2.2.1
    have hne : ∀ x ∈ m.copies, x.region ≠ r := fun x hx e => by
      have : hasB m r = true := List.any_eq_true.2 ⟨x, hx, by simpa [atB] using e⟩
      rw [hh] at this; cases this
    obtain ⟨p1, p2, p3⟩ := hc
    have hP : (insL p ⟨r, xs⟩ m.copies).Pairwise fun a b => a.region < b.region := by
      refine pair_of (z := GCopy.z) fun a b hab hb => ?_
      rw [insL_length p1] at hb
      rw [insL_getD p1, insL_getD p1]
      have key : ∀ i, i < m.copies.length → (i < p → (m.copies.getD i GCopy.z).region < r) ∧ (p ≤ i → r < (m.copies.getD i GCopy.z).region) := fun i hi => by
        refine ⟨fun h => ?_, fun h => ?_⟩
        · have := p2 i h; unfold cmpR at this; omega
        · have h4 := p3 i h hi
          have h5 := hne _ (getD_mem (z := GCopy.z) hi)
          unfold cmpR at h4; omega
      by_cases a1 : a < p
      · rw [if_pos a1]
        by_cases b1 : b < p
        · rw [if_pos b1]; exact pair_get (z := GCopy.z) c2 hab (by omega)
        · rw [if_neg b1]
          by_cases b2 : b < p + 1
          · rw [if_pos b2]; exact (key a (by omega)).1 a1
          · rw [if_neg b2]; exact pair_get (z := GCopy.z) c2 (by omega) (by omega)
      · rw [if_neg a1, if_neg (show ¬ b < p by omega), if_neg (show ¬ b < p + 1 by omega)]
        by_cases a2 : a < p + 1
        · rw [if_pos a2]
          exact (key (b - 1) (by omega)).2 (by omega)
        · rw [if_neg a2]
          exact pair_get (z := GCopy.z) c2 (by omega) (by omega)
    have hA : ∀ x ∈ insL p ⟨r, xs⟩ m.copies, (0 ≤ x.region ∧ x.region ≤ 5) ∧ cellsB x.cells = true := fun x hx2 => by
      rcases insL_mem.1 hx2 with rfl | hx2
      · exact ⟨hr, hx⟩
      · exact c1 x hx2
    have hL : (insL p ⟨r, xs⟩ m.copies).length ≤ 6 := by
      rcases Nat.lt_or_ge 6 (insL p ⟨r, xs⟩ m.copies).length with g | g
      · have h6 := rise_ge hP (fun x hx => (hA x hx).1.1) 6 g
        have h7 := (hA _ (getD_mem (z := GCopy.z) (i := 6) g)).1.2
        omega
      · exact g
    exact ⟨⟨hL, h.1.2.1, h.1.2.2⟩, h.2.1, copies_iff.2 ⟨hA, hP⟩, h.2.2.2⟩
structure More (ms ns : List GMachine) : Prop where
  len : ns.length = ms.length
  ok : ∀ j, j < ns.length → MachOk (ns.getD j GMachine.z) ∧ (ns.getD j GMachine.z).alive = (ms.getD j GMachine.z).alive ∧ ∀ q, hasB (ms.getD j GMachine.z) q = true → hasB (ns.getD j GMachine.z) q = true
theorem More.set {ms ns : List GMachine} (h : More ms ns) {m : Int} (hm : 0 ≤ m ∧ m < ms.length) {r : Int} (hr : 0 ≤ r ∧ r ≤ 5) {xs : List GCell} (hx : cellsB xs = true) : More ms (ns.set m.toNat (replM (ns.getD m.toNat GMachine.z) r xs)) := by
  have hlt : m.toNat < ns.length := by rw [h.len]; omega
  refine ⟨by rw [List.length_set]; exact h.len, fun j hj => ?_⟩
  rw [List.length_set] at hj
  rw [set_get hlt]
  split
  · rename_i e
    subst e
    obtain ⟨q1, q2, q3⟩ := h.ok _ hj
    exact ⟨replM_ok q1 hr hx, (replM_alive _ _ _).trans q2, fun q hq => by rw [replM_has, q3 q hq]; rfl⟩
  · exact h.ok j hj
end Go.Proofs.YthpjoddhlkcciaaGreat
namespace Go.Proofs.YthpjoddhlkcciaaGreat
open Go Go.RowKit
set_option linter.unusedVariables false
set_option linter.unusedSimpArgs false
set_option maxRecDepth 4000
theorem More.refl {ms : List GMachine} (h : ∀ j, j < ms.length → MachOk (ms.getD j GMachine.z)) : More ms ms := ⟨rfl, fun j hj => ⟨h j hj, rfl, fun _ hq => hq⟩⟩
theorem More.trans {a b c : List GMachine} (h : More a b) (k : More b c) : More a c := ⟨k.len.trans h.len, fun j hj => by
  have hb : j < b.length := by rw [← k.len]; exact hj
  obtain ⟨q1, q2, q3⟩ := k.ok j hj
  obtain ⟨p1, p2, p3⟩ := h.ok j hb
  exact ⟨q1, q2.trans p2, fun q hq => q3 q (p3 q hq)⟩⟩
end Go.Proofs.YthpjoddhlkcciaaGreat
namespace Go.Proofs.YthpjoddhlkcciaaGreat
open Go Go.RowKit
set_option linter.unusedVariables false
set_option linter.unusedSimpArgs false
set_option maxRecDepth 4000
theorem ids_rise {c : GCluster} (hok : ClusOk c) : ∀ {i j : Nat}, i < j → j < c.txs.length → (c.txs.getD i GTx.z).id < (c.txs.getD j GTx.z).id := fun {i j} hij hj => by
  have h1 : ∀ k, k + 1 < c.txs.length → (c.txs.getD k GTx.z).id < (c.txs.getD (k + 1) GTx.z).id := fun k hk => by
    have g := (hok.2.2.2.2 (k + 1) hk).1
    unfold badTx at g
    have g := (bif_or_false.1 (bif_or_false.1 (bif_or_false.1 g).1).1).2
    rw [decide_eq_true (show ((k + 1 : Nat) : Int) > 0 by omega), cond_true, show (((k + 1 : Nat) : Int) - 1).toNat = k by omega] at g
    have := of_decide_eq_false g
    omega
  induction j with
  | zero => omega
  | succ j ih =>
    have := h1 j hj
    by_cases e : i = j
    · subst e; exact this
    · have := ih (by omega) (by omega); omega
end Go.Proofs.YthpjoddhlkcciaaGreat
namespace Go.Proofs.YthpjoddhlkcciaaGreat
open Go Go.RowKit
set_option linter.unusedVariables false
set_option linter.unusedSimpArgs false
set_option maxRecDepth 4000
structure KeepT (t u : GTx) : Prop where
  id : u.id = t.id
  home : u.home = t.home
  stamp : u.stamp = t.stamp
theorem KeepT.refl (t : GTx) : KeepT t t := ⟨rfl, rfl, rfl⟩
theorem KeepT.trans {t u w : GTx} (h : KeepT t u) (k : KeepT u w) : KeepT t w := ⟨k.id.trans h.id, k.home.trans h.home, k.stamp.trans h.stamp⟩
theorem noteB_iff {n : GNote} : noteB n = true ↔ (0 ≤ n.region ∧ n.region ≤ 5) ∧ (0 ≤ n.slot ∧ n.slot ≤ 5) ∧ (0 ≤ n.version ∧ n.version ≤ 1000000) ∧ (-1000000000 ≤ n.value ∧ n.value ≤ 1000000000) := by
  rw [← inB_iff, ← inB_iff, ← inB_iff, ← inB_iff]
  unfold noteB
  cases inB n.region 0 5 <;> cases inB n.slot 0 5 <;> cases inB n.version 0 1000000 <;> cases inB n.value (-1000000000) 1000000000 <;> simp
end Go.Proofs.YthpjoddhlkcciaaGreat
namespace Go.Proofs.YthpjoddhlkcciaaGreat
open Go Go.RowKit
set_option linter.unusedVariables false
set_option linter.unusedSimpArgs false
set_option maxRecDepth 4000
abbrev cReg (l : List GCell) : List D := [dL 2 cCell GCell.z l]
abbrev regs0 (n : Nat) : Regs := List.replicate n cells0
def regN (n : Nat) (ts : List GTx) (i : Nat) : Regs := (repL (regs0 n) (ts.take i)).getD []
def goesN (n : Nat) (ts : List GTx) (i : Nat) : Prop := repL (regs0 n) (ts.take i) = some (regN n ts i)
structure TsOk (n : Nat) (ts : List GTx) : Prop where
  ok : ∀ t ∈ ts, TxOk t
  note : ∀ t ∈ ts, ∀ x ∈ t.reads, 0 ≤ x.region ∧ x.region < n
  set : ∀ t ∈ ts, ∀ x ∈ t.sets, 0 ≤ x.region ∧ x.region < n
theorem TsOk.setB {n : Nat} {ts : List GTx} (h : TsOk n ts) {t : GTx} (ht : t ∈ ts) {s : GSet} (hs : s ∈ t.sets) : setB s = true ∧ 0 ≤ s.region ∧ s.region < n := by
  refine ⟨?_, h.set t ht s hs⟩
  obtain ⟨i, hi, e⟩ := List.mem_iff_getElem.1 hs
  have := ((h.ok t ht).2.2 i hi).1
  rw [show t.sets.getD i GSet.z = s from by rw [← e]; simp [hi]] at this
  exact this
theorem TsOk.noteB {n : Nat} {ts : List GTx} (h : TsOk n ts) {t : GTx} (ht : t ∈ ts) {s : GNote} (hs : s ∈ t.reads) : noteB s = true ∧ 0 ≤ s.region ∧ s.region < n := by
  refine ⟨?_, h.note t ht s hs⟩
  obtain ⟨i, hi, e⟩ := List.mem_iff_getElem.1 hs
  have := ((h.ok t ht).2.1 i hi).1
  rw [show t.reads.getD i GNote.z = s from by rw [← e]; simp [hi]] at this
  exact this
theorem goesN_0 (n : Nat) (ts : List GTx) : goesN n ts 0 := rfl
theorem goesN_ok {n : Nat} {ts : List GTx} (h : TsOk n ts) : ∀ i, i ≤ ts.length → goesN n ts i → RegOk (regN n ts i) n
  | 0, _, _ => regs0_ok n
  | i + 1, hi, hg => by
    have hm : ts.getD i GTx.z ∈ ts := getD_mem hi
    unfold goesN at hg
    rw [repL_succ hi] at hg
    cases h1 : repL (regs0 n) (ts.take i) with
    | none => rw [h1] at hg; cases hg
    | some q =>
      have h2 : goesN n ts i := by unfold goesN regN; rw [h1]; rfl
      have h3 := goesN_ok h i (by omega) h2
      unfold goesN at h2
      rw [h1] at h2 hg
      injection h2 with h2
      exact stepT_ok (by rw [h2]; exact h3) (fun s hs => h.setB hm hs) hg
theorem goesN_succ {n : Nat} {ts : List GTx} {i : Nat} (hi : i < ts.length) (hg : goesN n ts i) {q : Regs} (hq : stepT (regN n ts i) (ts.getD i GTx.z) = some q) : goesN n ts (i + 1) ∧ regN n ts (i + 1) = q := by
  have e : repL (regs0 n) (ts.take (i + 1)) = some q := by rw [repL_succ hi, hg]; exact hq
  have e2 : regN n ts (i + 1) = q := by unfold regN; rw [e]; rfl
  exact ⟨by unfold goesN; rw [e2]; exact e, e2⟩
theorem goesN_stop {n : Nat} {ts : List GTx} {i : Nat} (hi : i < ts.length) (hg : goesN n ts i) (hq : stepT (regN n ts i) (ts.getD i GTx.z) = none) : repL (regs0 n) ts = none := by
  refine repL_stop (k := i + 1) ?_
  rw [repL_succ hi, hg]; exact hq
theorem goesN_end {n : Nat} {ts : List GTx} (hg : goesN n ts ts.length) : repL (regs0 n) ts = some (regN n ts ts.length) := by
  unfold goesN at hg; rwa [List.take_length] at hg
theorem any_getD {α : Type} {z : α} {p : α → Bool} {xs : List α} {i : Nat} (hi : i < xs.length) (h : p (xs.getD i z) = true) : xs.any p = true := List.any_eq_true.2 ⟨_, getD_mem hi, h⟩
theorem any_none {α : Type} {z : α} {p : α → Bool} {xs : List α} (h : ∀ i, i < xs.length → p (xs.getD i z) = false) : ¬ xs.any p = true := fun e => by
  obtain ⟨x, hx, e2⟩ := List.any_eq_true.1 e
  obtain ⟨i, hi, e3⟩ := List.mem_iff_getElem.1 hx
  have := h i hi
  rw [show xs.getD i z = x from by rw [← e3]; simp [hi], e2] at this
  cases this
abbrev rowTr (t : GTx) : List V := [.v (.int .i64 t.id), .v (.int .i64 t.home), .v (.int .i64 t.phase), .v (.int .i64 t.done), .s .r 5 t.reads.length fun i => cNote (t.reads.getD i GNote.z), .s .r 5 t.sets.length fun i => cSet (t.sets.getD i GSet.z), .v (.int .i64 t.stamp)]
theorem own_tr {B : BE} {r h : PH} {p : RT} (hr : RH r p) {vs : List Value} (hv : V.owns B r h [.v (.int .i64 p.1.id), .v (.int .i64 p.1.home), .v (.int .i64 p.1.phase), .v (.int .i64 p.1.done), .v (.slice p.2.1.1 p.2.1.2.1 p.2.1.2.2), .v (.slice p.2.2.1 p.2.2.2.1 p.2.2.2.2), .v (.int .i64 p.1.stamp)] vs) : V.owns B r h (rowTr p.1) vs := by
  obtain ⟨y1, t1, a1, b1, rfl, p1, q1, s1, e1, y2, t2, a2, b2, rfl, p2, q2, s2, e2, y3, t3, a3, b3, rfl, p3, q3, s3, e3, y4, t4, a4, b4, rfl, p4, q4, s4, e4, y5, t5, a5, b5, rfl, p5, q5, s5, e5, y6, t6, a6, b6, rfl, p6, q6, s6, e6, h7⟩ := hv
  refine ⟨y1, _, a1, b1, rfl, p1, q1, s1, e1, y2, _, a2, b2, rfl, p2, q2, s2, e2, y3, _, a3, b3, rfl, p3, q3, s3, e3, y4, _, a4, b4, rfl, p4, q4, s4, e4, y5, _, a5, b5, rfl, p5, q5, s5, .inr ⟨rfl, ?_⟩, y6, _, a6, b6, rfl, p6, q6, s6, .inr ⟨rfl, ?_⟩, h7⟩
  · have e5 : y5 = _ := e5
    rw [e5]; exact hr.1
  · have e6 : y6 = _ := e6
    rw [e6]; exact hr.2
theorem ordN_mem {α : Type} {z : α} {key : α → Int} {p : α → Bool} {xs : List α} : ∀ n, n ≤ xs.length → ∀ x ∈ ordN key z p xs n, x ∈ xs
  | 0, _, x, hx => by cases hx
  | n + 1, hn, x, hx => by
    rw [ordN] at hx
    split at hx
    · rcases List.mem_cons.1 ((insL_perm (k := _) (x := _) (xs := _)).mem_iff.1 hx) with h | h
      · subst h; exact getD_mem (by omega)
      · exact ordN_mem n (by omega) x h
    · exact ordN_mem n (by omega) x hx
theorem regs_take (n : Nat) (i : Nat) : regs0 (i + 1) = regs0 i ++ [cells0] := by
  show List.replicate (i + 1) cells0 = _
  rw [List.replicate_succ']
theorem set_imp {rs : Regs} {r : Int} {y : List GCell} : (Ch.arr 1 rs.length fun j => bif Nat.beq j r.toNat then cReg y else cReg (rs.getD j [])).imp (arrC 1 cReg [] (rs.set r.toNat y)) := imp_set (OwnI.refl _)
theorem imp_one {P : Program} {sets : List GSet} {k n : Nat} (h : n = 1) : (SV.a (.s .r 5 n fun i => cSet (sets.getD (k + i) GSet.z))).imp P (vL 5 cSet GSet.z [sets.getD k GSet.z]) := SV.imp_sl (by rw [h]; rfl) fun i hi => by
  have : i = 0 := by omega
  subst this; rfl
set_option maxHeartbeats 4000000 in
theorem l13Replay_x {r0 : PH} (c : GCluster) (hok : ClusOk c) (xs : List RT) (x1 : xs.map (·.1) = c.txs) (x2 : ∀ i, i < xs.length → RH r0 (xs.getD i zT)) (hts : TsOk c.places.length (ordC c)) :
    ConX r0 Tryz.prog 39 [] [vR (cRaw c xs)] [] (fun q : Regs => RegOk q c.places.length ∧ ∀ q', repL (regs0 c.places.length) (ordC c) = some q' → q = q') (fun _ => [.a (.g 900), vB (repL (regs0 c.places.length) (ordC c)).isSome]) fun q => [(900, arrC 1 cReg [] q)] := by
  have hp6 := hok.2.1.1
  have hxl : xs.length = c.txs.length := by rw [← x1, List.length_map]
  have htl : c.txs.length ≤ 60 := hok.1.2.2.2
  have ho := ordC_raw x1
  refine conX_enter Tryz.func39 rfl rfl rfl fun B0 r_ D_ w0 hr => ?_
  refine T_auto TT_ok rfl ?_
  refine RJ_bs TT_ok 15 (fun i => cReg (([] : Regs).getD i [])) rfl rfl rfl rfl rfl rfl rfl (fun i hi => absurd hi (Nat.not_lt_zero _)) (mu1 := []) rfl rfl rfl ?_
  refine RJ_auto TT_ok rfl ?_
  refine T_loopA (ι := Nat) (fun i => [(5, vI i), (4, .a (.g 15))]) (fun i => [(15, arrC 1 cReg [] (regs0 i))]) (fun i => i ≤ c.places.length) (fun i => c.places.length - i) 0 [15] [15] rfl rfl (Nat.zero_le _) (by repeat (first | exact trivial | refine And.intro ⟨_, rfl, SV.imp_refl _⟩ ?_)) (by repeat (first | exact trivial | refine And.intro ⟨_, rfl, Ch.imp_refl _⟩ ?_)) ?_
  intro i h1
  have hrl : (regs0 i).length = i := List.length_replicate
  refine T_auto TT_ok rfl ?_
  refine T_condD rfl (fun e => ?_) (fun e => ?_)
  · have hi : i < c.places.length := by omega
    refine T_auto TT_ok rfl ?_
    refine RJ_C TT_ok (Con.sw 900 24 newCells_c) rfl rfl (SVs.imp_refl _) (fun _ => rfl) rfl rfl rfl fun _ _ => ?_
    refine RJ_auto TT_ok rfl ?_
    refine RJ_bs TT_ok 25 (fun _ => cReg cells0) rfl rfl rfl rfl rfl rfl rfl (fun i hi => by rcases i with _ | i <;> first | rfl | omega) (mu1 := [(24, .arr 0 0 fun _ => [])]) rfl rfl rfl ?_
    refine RJ_auto TT_ok rfl ?_
    refine RJ_appM TT_ok 15 25 26 rfl rfl rfl rfl rfl rfl rfl rfl rfl rfl rfl rfl ⟨by show ((regs0 i).length + 1) * 24 ≤ _; omega, by unfold maxL; omega⟩ ?_
    refine RJ_auto TT_ok rfl ?_
    refine X_view (V_sw 15 26) ?_
    exact X_inv (i + 1) hi (by omega) (by repeat (first | exact trivial | refine And.intro ⟨_, rfl, SV.imp_refl _⟩ ?_)) ⟨⟨_, rfl, imp_app1 (x := cells0) (regs_take c.places.length i) rfl⟩, (by repeat (first | exact trivial | refine And.intro ⟨_, rfl, Ch.imp_refl _⟩ ?_))⟩
  have hi : i = c.places.length := by omega
  subst hi
  have hol := ordN_len (key := kT) (z := zT) (p := pT) (xs := xs) xs.length
  have hom : ∀ p ∈ ordN kT zT pT xs xs.length, RH r0 p := fun p hp => by
    obtain ⟨i, hi, e⟩ := List.mem_iff_getElem.1 (ordN_mem xs.length (Nat.le_refl _) p hp)
    have := x2 i hi
    rwa [show xs.getD i zT = p from by rw [← e]; simp [hi]] at this
  refine T_auto TT_ok rfl ?_
  refine RJ_CX TT_ok (ConX.sw 900 41 (l13Order_x c xs (by omega) fun i hi => (x2 i hi).mono hr)) rfl rfl (SVs.imp_refl _) (fun _ => rfl) rfl rfl rfl fun _ _ => ?_
  generalize hys : ordN kT zT pT xs xs.length = ys at ho hol hom ⊢
  have hyl : (ordC c).length = ys.length := by rw [← ho, List.length_map]
  have hyg : ∀ i, (ordC c).getD i GTx.z = (ys.getD i zT).1 := fun i => by rw [← ho]; exact getD_map (·.1) zT ys i
  refine RJ_auto TT_ok rfl ?_
  refine T_loopA (ι := Nat) (fun i => [(7, vI i)]) (fun i => [(15, arrC 1 cReg [] (regN c.places.length (ordC c) i))]) (fun i => i ≤ ys.length ∧ goesN c.places.length (ordC c) i) (fun i => ys.length - i) 0 [15] [] rfl rfl ⟨Nat.zero_le _, goesN_0 _ _⟩ (by repeat (first | exact trivial | refine And.intro ⟨_, rfl, SV.imp_refl _⟩ ?_)) (by repeat (first | exact trivial | refine And.intro ⟨_, rfl, Ch.imp_refl _⟩ ?_)) ?_
  intro i ⟨h1, h2⟩
  refine T_auto TT_ok rfl ?_
  refine T_condD rfl (fun e => ?_) (fun e => ?_)
  · have hi : i < ys.length := by omega
    have hro := goesN_ok hts i (by omega) h2
    have hgs := fun q (hq : stepT _ _ = some q) => goesN_succ (i := i) (by omega) h2 hq
    have hgx := goesN_stop (i := i) (by omega) h2
    have htm : (ordC c).getD i GTx.z ∈ ordC c := getD_mem (by omega)
    have hnb := fun s hs => hts.noteB htm (s := s) hs
    have hsb := fun s hs => hts.setB htm (s := s) hs
    have hto := hts.ok _ htm
    have hrh := (hom _ (getD_mem (z := zT) hi)).mono hr
    rw [hyg] at hgs hgx hnb hsb hto
    generalize hrs : regN c.places.length (ordC c) i = rs at hro hgs hgx ⊢
    generalize hp : ys.getD i zT = p at hgs hgx hnb hsb hto hrh ⊢
    have hrl2 := hro.len
    have h12 : p.1.reads.length ≤ 12 ∧ p.1.sets.length ≤ 12 := hto.1.2.2.2.2.2
    refine T_auto TT_ok rfl ?_
    rw [show ys.getD (i : Int).toNat zT = p from hp]
    refine T_view (V_row 8 (l' := rowTr p.1) rfl rfl rfl fun B w H m h' vs hv => own_tr hrh hv) ?_
    refine T_loopA (ι := Nat) (fun k => [(9, vI k)]) (fun _ => []) (fun k => k ≤ p.1.reads.length ∧ ∀ j, j < k → noteN rs (p.1.reads.getD j GNote.z) = false) (fun k => p.1.reads.length - k) 0 [] [] rfl rfl ⟨Nat.zero_le _, fun j hj => absurd hj (Nat.not_lt_zero _)⟩ (by repeat (first | exact trivial | refine And.intro ⟨_, rfl, SV.imp_refl _⟩ ?_)) (by repeat (first | exact trivial | refine And.intro ⟨_, rfl, Ch.imp_refl _⟩ ?_)) ?_
    intro k ⟨k1, k2⟩
    refine T_auto TT_ok rfl ?_
    refine T_condD rfl (fun e2 => ?_) (fun e2 => ?_)
    · have hk : k < p.1.reads.length := by omega
      obtain ⟨n1, n2, n3⟩ := hnb _ (getD_mem (z := GNote.z) hk)
      have n4 := (noteB_iff.1 n1).2.1
      generalize hx : p.1.reads.getD k GNote.z = x at n1 n2 n3 n4
      obtain ⟨q1, q2⟩ := hro.head (r := x.region) (s := x.slot) ⟨n2, n3⟩ n4
      have q3 := (cellsB_iff.1 (hro.ok x.region.toNat (by omega))).1
      have q4 : 0 ≤ x.region ∧ x.region < (rs.length : Int) := ⟨n2, by rw [hrl2]; exact n3⟩
      have q5 : 0 ≤ x.slot ∧ x.slot < ((rs.getD x.region.toNat []).length : Int) := ⟨n4.1, by rw [q3]; omega⟩
      refine T_auto TT_ok rfl ?_
      rw [show p.1.reads.getD (k : Int).toNat GNote.z = x from hx]
      refine T_drawL TT_ok [] [0, 1, 2, 3, 4, 5, 6, 7, 8, 9, 10] rfl rfl fun B0 H0 => ?_
      refine DJ_one 9 rfl (by kernel_rfl) (OJ_M TT_ok rfl rfl rfl rfl rfl rfl (SJ_dj ?_))
      refine DJ_one 10 rfl (by kernel_rfl) (OJ_M TT_ok rfl rfl rfl rfl rfl rfl (SJ_dj ?_))
      refine DJ_endA TT_ok rfl ?_
      refine T_drawL TT_ok [] [0, 1, 3, 4, 2, 5, 6, 7, 8, 9, 10, 11, 12, 13, 14, 15, 16, 17, 18, 19, 20] rfl rfl fun B0 H0 => ?_
      refine DJ_Qi 2 (spec_Version_q _) rfl rfl rfl (SVs.imp_refl _) rfl ?_
      refine DJ_onL TT_ok [5, 6, 7, 8, 9, 10, 11, 12, 13, 14, 15, 17, 18, 16, 19, 20] rfl ?_
      refine DJ_Qi 16 (spec_Used_q _) rfl rfl rfl (SVs.imp_refl _) rfl ?_
      refine DJ_onL TT_ok [19, 20] rfl ?_
      refine DJ_endA TT_ok rfl ?_
      refine T_cond (b := noteN rs x) rfl (fun e3 => ?_) (fun e3 => ?_)
      · have hno : repL (regs0 c.places.length) (ordC c) = none := hgx (by unfold stepT; rw [if_pos (any_getD (z := GNote.z) hk (by rw [hx]; exact e3))])
        refine T_auto TT_ok rfl ?_
        refine T_view (V_sw 15 900) ?_
        refine T_ret TT_ok (rs) [(2, none), (3, none)] rfl rfl ?_ ?_ ?_
        · rw [hno]; exact SVs.imp_refl _
        · exact ⟨⟨_, rfl, Ch.imp_refl _⟩, trivial⟩
        · exact ⟨hro, fun q' hq => by rw [hno] at hq; cases hq⟩
      · refine T_auto TT_ok rfl ?_
        refine X_inv (k + 1) ⟨hk, fun j hj => ?_⟩ (by omega) (by repeat (first | exact trivial | refine And.intro ⟨_, rfl, SV.imp_refl _⟩ ?_)) (by repeat (first | exact trivial | refine And.intro ⟨_, rfl, Ch.imp_refl _⟩ ?_))
        by_cases c1 : j = k
        · subst c1; rw [hx]; exact e3
        · exact k2 j (by omega)
    have hk : k = p.1.reads.length := by omega
    subst hk
    have hrn : ¬ p.1.reads.any (noteN rs) = true := any_none (z := GNote.z) k2
    refine T_auto TT_ok rfl ?_
    refine T_loopA (ι := Nat) (fun k => [(12, vI k)]) (fun _ => []) (fun k => k ≤ p.1.sets.length ∧ ∀ j, j < k → verX rs (p.1.sets.getD j GSet.z) = false) (fun k => p.1.sets.length - k) 0 [] [] rfl rfl ⟨Nat.zero_le _, fun j hj => absurd hj (Nat.not_lt_zero _)⟩ (by repeat (first | exact trivial | refine And.intro ⟨_, rfl, SV.imp_refl _⟩ ?_)) (by repeat (first | exact trivial | refine And.intro ⟨_, rfl, Ch.imp_refl _⟩ ?_)) ?_
    intro k ⟨k3, k4⟩
    refine T_auto TT_ok rfl ?_
    refine T_condD rfl (fun e3 => ?_) (fun e3 => ?_)
    · have hk : k < p.1.sets.length := by omega
      obtain ⟨n1, n2, n3⟩ := hsb _ (getD_mem (z := GSet.z) hk)
      have n4 := (setB_iff.1 n1).2.1
      generalize hx : p.1.sets.getD k GSet.z = x at n1 n2 n3 n4
      obtain ⟨q1, q2⟩ := hro.head (r := x.region) (s := x.slot) ⟨n2, n3⟩ n4
      have q3 := (cellsB_iff.1 (hro.ok x.region.toNat (by omega))).1
      have q4 : 0 ≤ x.region ∧ x.region < (rs.length : Int) := ⟨n2, by rw [hrl2]; exact n3⟩
      have q5 : 0 ≤ x.slot ∧ x.slot < ((rs.getD x.region.toNat []).length : Int) := ⟨n4.1, by rw [q3]; omega⟩
      refine T_auto TT_ok rfl ?_
      rw [show p.1.sets.getD (k : Int).toNat GSet.z = x from hx]
      refine T_drawL TT_ok [] [0, 1, 2, 3, 4, 5, 6, 7, 8, 9, 11, 12, 10, 13] rfl rfl fun B0 H0 => ?_
      refine DJ_Qi 10 (spec_Version_q _) rfl rfl rfl (SVs.imp_refl _) rfl ?_
      refine DJ_onL TT_ok [13] rfl ?_
      refine DJ_endA TT_ok rfl ?_
      refine T_cond (b := verX rs x) rfl (fun e4 => ?_) (fun e4 => ?_)
      · have hno : repL (regs0 c.places.length) (ordC c) = none := hgx (by unfold stepT; rw [if_neg hrn, if_pos (any_getD (z := GSet.z) hk (by rw [hx]; exact e4))])
        refine T_auto TT_ok rfl ?_
        refine T_view (V_sw 15 900) ?_
        refine T_ret TT_ok (rs) [(2, none), (3, none)] rfl rfl ?_ ?_ ?_
        · rw [hno]; exact SVs.imp_refl _
        · exact ⟨⟨_, rfl, Ch.imp_refl _⟩, trivial⟩
        · exact ⟨hro, fun q' hq => by rw [hno] at hq; cases hq⟩
      · refine T_auto TT_ok rfl ?_
        refine X_inv (k + 1) ⟨hk, fun j hj => ?_⟩ (by omega) (by repeat (first | exact trivial | refine And.intro ⟨_, rfl, SV.imp_refl _⟩ ?_)) (by repeat (first | exact trivial | refine And.intro ⟨_, rfl, Ch.imp_refl _⟩ ?_))
        by_cases c1 : j = k
        · subst c1; rw [hx]; exact e4
        · exact k4 j (by omega)
    have hk : k = p.1.sets.length := by omega
    subst hk
    have hsn : ¬ p.1.sets.any (verX rs) = true := any_none (z := GSet.z) k4
    obtain ⟨hg1, hg2⟩ := hgs (p.1.sets.foldl inst1 rs) (by unfold stepT; rw [if_neg hrn, if_neg hsn])
    refine T_auto TT_ok rfl ?_
    refine T_loopA (ι := Nat) (fun k => [(14, vI k)]) (fun k => [(15, arrC 1 cReg [] ((p.1.sets.take k).foldl inst1 rs))]) (fun k => k ≤ p.1.sets.length) (fun k => p.1.sets.length - k) 0 [15] [] rfl rfl (Nat.zero_le _) (by repeat (first | exact trivial | refine And.intro ⟨_, rfl, SV.imp_refl _⟩ ?_)) (by repeat (first | exact trivial | refine And.intro ⟨_, rfl, Ch.imp_refl _⟩ ?_)) ?_
    intro k k5
    refine T_auto TT_ok rfl ?_
    refine T_condD rfl (fun e4 => ?_) (fun e4 => ?_)
    · have hk : k < p.1.sets.length := by omega
      obtain ⟨n1, n2, n3⟩ := hsb _ (getD_mem (z := GSet.z) hk)
      have hF := foldl_take (z := GSet.z) inst1 rs hk
      have hro2 : RegOk ((p.1.sets.take k).foldl inst1 rs) c.places.length := insts_ok (fun s hs => hsb s (List.mem_of_mem_take hs)) hro
      generalize (p.1.sets.take k).foldl inst1 rs = rk at hF hro2 ⊢
      have q4 : 0 ≤ (p.1.sets.getD (k : Int).toNat GSet.z).region ∧ (p.1.sets.getD (k : Int).toNat GSet.z).region < (rk.length : Int) := ⟨n2, by rw [hro2.len]; exact n3⟩
      refine T_view (V_carve 15 (p.1.sets.getD (k : Int).toNat GSet.z).region 70 rfl rfl rfl rfl rfl rfl q4) ?_
      refine T_view (V_open 70 0 71 rfl rfl rfl rfl rfl rfl) ?_
      refine T_auto TT_ok rfl ?_
      refine T_drawL TT_ok [71] [0, 1, 2, 3, 4, 5, 6, 7, 9, 10, 11, 12, 13, 14, 8, 15] rfl rfl fun B0 H0 => ?_
      refine DJ_v0 (V_pe0 123 rfl rfl rfl) ?_
      refine DJ_onL TT_ok [8, 15] rfl ?_
      refine DJ_C 15 (Con.sw 900 71 (l3Install_k (rk.getD (p.1.sets.getD k GSet.z).region.toNat []) [p.1.sets.getD k GSet.z] (Nat.le_add_left 1 1048575) (hro2.ok _ (by omega)) (fun s hs => by rw [List.mem_singleton.1 hs]; exact n1))) rfl rfl rfl (SVs.cons (SV.imp_refl _) (SVs.cons (imp_one (by omega)) rfl)) (fun _ => rfl) rfl rfl rfl fun _ _ => ?_
      refine DJ_endA TT_ok rfl ?_
      refine X_view (V_fold 70 0 71 rfl rfl rfl rfl rfl rfl rfl) ?_
      refine X_view (V_uncarve 15 70 rfl rfl rfl rfl rfl rfl rfl) ?_
      exact X_inv (k + 1) hk (by omega) (by repeat (first | exact trivial | refine And.intro ⟨_, rfl, SV.imp_refl _⟩ ?_)) ⟨⟨_, rfl, by rw [hF]; exact set_imp⟩, (by repeat (first | exact trivial | refine And.intro ⟨_, rfl, Ch.imp_refl _⟩ ?_))⟩
    have hk : k = p.1.sets.length := by omega
    subst hk
    rw [List.take_length, ← hg2]
    refine T_auto TT_ok rfl ?_
    exact X_inv (i + 1) ⟨hi, hg1⟩ (by omega) (by repeat (first | exact trivial | refine And.intro ⟨_, rfl, SV.imp_refl _⟩ ?_)) (by repeat (first | exact trivial | refine And.intro ⟨_, rfl, Ch.imp_refl _⟩ ?_))
  · have hi : i = ys.length := by omega
    rw [← hyl] at hi
    subst hi
    have hend := goesN_end h2
    refine T_auto TT_ok rfl ?_
    refine T_view (V_sw 15 900) ?_
    refine T_ret TT_ok ((regN c.places.length (ordC c) (ordC c).length)) [(2, none), (3, none)] rfl rfl ?_ ?_ ?_
    · rw [hend]; exact SVs.imp_refl _
    · exact ⟨⟨_, rfl, Ch.imp_refl _⟩, trivial⟩
    · exact ⟨goesN_ok hts _ (Nat.le_refl _) h2, fun q' hq => by rw [hend] at hq; injection hq⟩
end Go.Proofs.YthpjoddhlkcciaaGreat
namespace Go.Proofs.YthpjoddhlkcciaaGreat
open Go Go.RowKit
set_option linter.unusedVariables false
set_option linter.unusedSimpArgs false
set_option maxRecDepth 4000
theorem getD_elem {α : Type} {z : α} {xs : List α} {i : Nat} (h : i < xs.length) : xs.getD i z = xs[i] := by simp [List.getD_eq_getElem?_getD, h]
theorem ordC_mem {c : GCluster} {t : GTx} (h : t ∈ ordC c) : ∃ i, i < c.txs.length ∧ c.txs.getD i GTx.z = t := by
  obtain ⟨i, hi, e⟩ := List.mem_iff_getElem.1 (ordN_mem c.txs.length (Nat.le_refl _) t h)
  exact ⟨i, hi, by rw [← e]; simp [hi]⟩
theorem ordC_ok {c : GCluster} (hok : ClusOk c) : TsOk c.places.length (ordC c) where
  ok t ht := by obtain ⟨i, hi, rfl⟩ := ordC_mem ht; exact hok.tx hi
  note t ht x hx := by
    obtain ⟨i, hi, rfl⟩ := ordC_mem ht
    obtain ⟨k, hk, e⟩ := List.mem_iff_getElem.1 hx
    have := hok.note hi hk
    rwa [getD_elem hk, e] at this
  set t ht x hx := by
    obtain ⟨i, hi, rfl⟩ := ordC_mem ht
    obtain ⟨k, hk, e⟩ := List.mem_iff_getElem.1 hx
    have := hok.set hi hk
    rwa [getD_elem hk, e] at this
open Classical in
noncomputable def serialM (c : GCluster) : Option Regs := if ClusOk c then repL (regs0 c.places.length) (ordC c) else none
theorem serial_ok {c : GCluster} {q : Regs} (h : serialM c = some q) : ClusOk c ∧ repL (regs0 c.places.length) (ordC c) = some q ∧ RegOk q c.places.length := by
  unfold serialM at h
  split at h
  · rename_i hok
    refine ⟨hok, h, ?_⟩
    have hn : ∀ i, i ≤ (ordC c).length → goesN c.places.length (ordC c) i := fun i hi => by
      cases e : repL (regs0 c.places.length) ((ordC c).take i) with
      | none => rw [repL_stop e] at h; cases h
      | some q' => unfold goesN regN; rw [e]; rfl
    have h1 := hn _ (Nat.le_refl _)
    have h2 := goesN_ok (ordC_ok hok) _ (Nat.le_refl _) h1
    rw [goesN_end h1] at h
    injection h with h
    rwa [h] at h2
  · cases h
noncomputable def finalM (c : GCluster) (r0 : Int) : List GCell × Bool := match serialM c with
  | some q => if 0 ≤ r0 ∧ r0 < c.places.length then (q.getD r0.toNat [], true) else ([], false)
  | none => ([], false)
def agrAt (c : GCluster) (q : Regs) (r s : Nat) : Prop := lockedB (cellAt c r s).head = true ∨ cellAt c r s = cellRR q r s
def agrOk (c : GCluster) (q : Regs) (r : Nat) : Prop := (machAt c r 0).alive = true → ∀ s, s < 6 → agrAt c q r s
open Classical in
noncomputable def agreesM (c : GCluster) : Bool := match serialM c with
  | some q => dec (∀ r, r < c.places.length → agrOk c q r)
  | none => false
theorem spec_Serial_q (c : GCluster) (hb : D.bds bigN (cCluster c)) : Ans Tryz.prog 9 [] [vR (cCluster c)] [] (vB (serialM c).isSome) := by
  refine con_enter Tryz.func9 rfl rfl rfl fun B0 r_ D_ w0 => ?_
  refine T_tell 0 (φ := fun xs : List RT => xs.map (·.1) = c.txs ∧ ∀ i, i < xs.length → RH r_ (xs.getD i zT)) (x' := fun xs => vR (cRaw c xs)) rfl (fun B H v hv => tell_raw hv) fun xs hx => ?_
  obtain ⟨x1, x2⟩ := hx
  refine T_auto TT_ok rfl ?_
  refine RJ_view (V_tell 5 rfl rfl (fun B H v hv => tell_back x1 x2 hv)) ?_
  refine RJ_Q TT_ok (spec_ClusterOk_q c hb) rfl rfl rfl rfl rfl ?_
  refine T_condX rfl (fun e => ?_) (fun e => ?_)
  · refine T_auto TT_ok rfl ?_
    exact T_ansB TT_ok [(2, none)] rfl rfl ((by unfold serialM; rw [if_neg (dec_not.1 e)]; rfl))
  have hok := dec_iff.1 e
  refine T_auto TT_ok rfl ?_
  refine RJ_CX TT_ok (ConX.sw 900 41 (l13Replay_x c hok xs x1 x2 (ordC_ok hok))) rfl rfl (SVs.imp_refl _) (fun _ => rfl) rfl rfl rfl fun q hq => ?_
  refine RJ_auto TT_ok rfl ?_
  exact T_ansB TT_ok [(2, none)] rfl rfl ((by unfold serialM; rw [if_pos hok]))
theorem serialM_yes {c : GCluster} (h : (serialM c).isSome = true) : ∃ q, serialM c = some q := Option.isSome_iff_exists.1 h
theorem spec_Final_m (c : GCluster) (hb : D.bds bigN (cCluster c)) (r0 : Int) : MkCells Tryz.prog 21 [vR (cCluster c), vI r0] (finalM c r0).1 (finalM c r0).2 := by
  have b1 : c.places.length ≤ 1048576 := hb.2.2.1.1
  refine con_enter Tryz.func21 rfl rfl rfl fun B0 r_ D_ w0 => ?_
  refine T_tell 0 (φ := fun xs : List RT => xs.map (·.1) = c.txs ∧ ∀ i, i < xs.length → RH r_ (xs.getD i zT)) (x' := fun xs => vR (cRaw c xs)) rfl (fun B H v hv => tell_raw hv) fun xs hx => ?_
  obtain ⟨x1, x2⟩ := hx
  refine T_auto TT_ok rfl ?_
  refine RJ_view (V_tell 8 rfl rfl (fun B H v hv => tell_back x1 x2 hv)) ?_
  refine RJ_Q TT_ok (spec_Serial_q c hb) rfl rfl rfl rfl rfl ?_
  refine RJ_Q TT_ok (spec_l1In_q _ _ _) rfl rfl rfl rfl rfl ?_
  rw [inB_off]
  refine T_cond rfl (fun e => ?_) (fun e => ?_)
  · have h0 : finalM c r0 = ([], false) := by
      unfold finalM
      cases hq : serialM c with
      | none => rfl
      | some q =>
        rw [hq] at e
        have : ¬ (0 ≤ r0 ∧ r0 < (c.places.length : Int)) := fun h => by rw [decide_eq_true h] at e; cases e
        exact if_neg this
    rw [h0]
    refine T_auto TT_ok rfl ?_
    refine RJ_bs TT_ok 900 (fun i => cCell (([] : List GCell).getD i GCell.z)) rfl rfl rfl rfl rfl rfl rfl (fun i hi => absurd hi (Nat.not_lt_zero _)) (mu1 := []) rfl rfl rfl ?_
    refine RJ_auto TT_ok rfl ?_
    refine T_ret TT_ok (()) [(4, none), (5, none)] rfl rfl ?_ ?_ ?_
    · exact SVs.imp_refl _
    · exact ⟨⟨_, rfl, Ch.imp_refl _⟩, trivial⟩
    · trivial
  have hS : ∃ q, serialM c = some q ∧ 0 ≤ r0 ∧ r0 < (c.places.length : Int) := by
    cases hq : serialM c with
    | none => rw [hq] at e; cases e
    | some q => rw [hq] at e; exact ⟨q, rfl, of_decide_eq_true (by simpa using e)⟩
  obtain ⟨q, hS, hr⟩ := hS
  obtain ⟨hok, hq, hqo⟩ := serial_ok hS
  rw [show finalM c r0 = (q.getD r0.toNat [], true) from by unfold finalM; rw [hS]; exact if_pos hr]
  clear e
  refine T_auto TT_ok rfl ?_
  refine RJ_CX TT_ok (ConX.sw 900 41 (l13Replay_x c hok xs x1 x2 (ordC_ok hok))) rfl rfl (SVs.imp_refl _) (fun _ => rfl) rfl rfl rfl fun q2 hq2 => ?_
  have e2 := hq2.2 q hq
  subst e2
  have q4 : 0 ≤ r0 ∧ r0 < (q2.length : Int) := by rw [hqo.len]; exact hr
  refine RJ_view (V_carve 41 r0 70 rfl rfl rfl rfl rfl rfl q4) ?_
  refine RJ_view (V_open 70 0 71 rfl rfl rfl rfl rfl rfl) ?_
  refine RJ_auto TT_ok rfl ?_
  refine RJ_view (V_pe 28 rfl rfl rfl) ?_
  refine RJ_auto TT_ok rfl ?_
  refine T_view (V_sw 71 900) ?_
  refine T_ret TT_ok (()) [(4, none), (5, none)] rfl rfl ?_ ?_ ?_
  · exact SVs.imp_refl _
  · exact ⟨⟨_, rfl, Ch.imp_refl _⟩, trivial⟩
  · trivial
theorem agreesM_no {c : GCluster} {q : Regs} (h : serialM c = some q) {r : Nat} (hr : r < c.places.length) (hn : ¬ agrOk c q r) : agreesM c = false := by
  unfold agreesM
  rw [h]
  exact dec_false fun k => hn (k r hr)
theorem agreesM_yes {c : GCluster} {q : Regs} (h : serialM c = some q) (hn : ∀ r, r < c.places.length → agrOk c q r) : agreesM c = true := by
  unfold agreesM
  rw [h]
  exact dec_true hn
theorem agr_bad {l : Bool} {x y : GCell} : (bif !l then !bif x.head == y.head then (bif x.value == y.value then true else false) else false else false) = true ↔ ¬ (l = true ∨ x = y) := by
  obtain ⟨a, b⟩ := x
  obtain ⟨d, e⟩ := y
  cases l
  · by_cases h1 : a = d <;> by_cases h2 : b = e <;> simp [h1, h2]
  · simp
set_option maxHeartbeats 1000000 in
theorem spec_Agrees_q (c : GCluster) (hb : D.bds bigN (cCluster c)) : Ans Tryz.prog 19 [] [vR (cCluster c)] [] (vB (agreesM c)) := by
  have b1 : c.places.length ≤ 1048576 := hb.2.2.1.1
  refine con_enter Tryz.func19 rfl rfl rfl fun B0 r_ D_ w0 => ?_
  refine T_tell 0 (φ := fun xs : List RT => xs.map (·.1) = c.txs ∧ ∀ i, i < xs.length → RH r_ (xs.getD i zT)) (x' := fun xs => vR (cRaw c xs)) rfl (fun B H v hv => tell_raw hv) fun xs hx => ?_
  obtain ⟨x1, x2⟩ := hx
  refine T_auto TT_ok rfl ?_
  refine RJ_view (V_tell 10 rfl rfl (fun B H v hv => tell_back x1 x2 hv)) ?_
  refine RJ_Q TT_ok (spec_Serial_q c hb) rfl rfl rfl rfl rfl ?_
  refine T_condX rfl (fun e => ?_) (fun e => ?_)
  · refine T_auto TT_ok rfl ?_
    exact T_ansB TT_ok [(2, none)] rfl rfl ((by unfold agreesM; cases hq : serialM c with | none => rfl | some q => rw [hq] at e; cases e))
  obtain ⟨q, hS⟩ := serialM_yes e
  obtain ⟨hok, hq, hqo⟩ := serial_ok hS
  have hp6 := hok.2.1.1
  have hql := hqo.len
  refine T_auto TT_ok rfl ?_
  refine RJ_CX TT_ok (ConX.sw 900 41 (l13Replay_x c hok xs x1 x2 (ordC_ok hok))) rfl rfl (SVs.imp_refl _) (fun _ => rfl) rfl rfl rfl fun q2 hq2 => ?_
  have e2 := hq2.2 q hq
  subst e2
  refine RJ_auto TT_ok rfl ?_
  refine T_loopA (ι := Nat) (fun r => [(5, vI r)]) (fun _ => []) (fun r => r ≤ c.places.length ∧ ∀ j, j < r → agrOk c q2 j) (fun r => c.places.length - r) 0 [] [] rfl rfl ⟨Nat.zero_le _, fun j hj => absurd hj (Nat.not_lt_zero _)⟩ (by repeat (first | exact trivial | refine And.intro ⟨_, rfl, SV.imp_refl _⟩ ?_)) (by repeat (first | exact trivial | refine And.intro ⟨_, rfl, Ch.imp_refl _⟩ ?_)) ?_
  intro r ⟨h1, h2⟩
  have hnext : r < c.places.length → agrOk c q2 r → ∀ j, j < r + 1 → agrOk c q2 j := fun _ h j hj => by
    by_cases c1 : j = r
    · subst c1; exact h
    · exact h2 j (by omega)
  refine T_auto TT_ok rfl ?_
  refine T_condD rfl (fun e3 => ?_) (fun e3 => ?_)
  · have hr : r < c.places.length := by omega
    have hpl := hok.pl hr
    have hm := hok.at (r := r) (k := 0) hr (by omega)
    have hm1 := hm.1
    have bm := bdM_any hb (mAt c r 0).toNat
    have hP := l8Primary_c c hb hok r ⟨by omega, by omega⟩
    rw [Int.toNat_natCast] at hP
    refine T_auto TT_ok rfl ?_
    refine RJ_view (V_tell 26 rfl rfl (fun B H v hv => tell_back x1 x2 hv)) ?_
    cases ha : (machAt c r 0).alive with
    | false =>
      rw [if_neg (by rw [ha]; simp)] at hP
      refine RJ_C TT_ok (hP) rfl rfl (SVs.imp_refl _) (fun _ => rfl) rfl rfl rfl fun _ _ => ?_
      refine RJ_auto TT_ok rfl ?_
      refine T_condD rfl (fun e => ?_) (fun e => absurd (by decide) e)
      refine T_auto TT_ok rfl ?_
      exact X_inv (r + 1) ⟨hr, hnext hr fun h => by rw [ha] at h; cases h⟩ (by omega) (by repeat (first | exact trivial | refine And.intro ⟨_, rfl, SV.imp_refl _⟩ ?_)) (by repeat (first | exact trivial | refine And.intro ⟨_, rfl, Ch.imp_refl _⟩ ?_))
    | true =>
      rw [if_pos ha] at hP
      have hh := hm.2 ha
      have gi := hasB_idx hh
      have hcl := cellsOf_has hh
      have hl6 := (cellsOf_len (hok.mach hr (k := 0) (by omega)) hh).1
      refine RJ_C TT_ok (hP) rfl rfl (SVs.imp_refl _) (fun _ => rfl) rfl rfl rfl fun _ _ => ?_
      refine RJ_auto TT_ok rfl ?_
      refine T_condD rfl (fun e => absurd e (by omega)) (fun e => ?_)
      have hce : ∀ s, cellAt c r s = (cellsOf (machAt c r 0) r).getD s.toNat GCell.z := fun s => rfl
      rw [hcl] at hl6 hce
      refine T_auto TT_ok rfl ?_
      refine T_loopA (ι := Nat) (fun s => [(9, vI s)]) (fun _ => []) (fun s => s ≤ 6 ∧ ∀ j, j < s → agrAt c q2 r j) (fun s => 6 - s) 0 [] [] rfl rfl ⟨Nat.zero_le _, fun j hj => absurd hj (Nat.not_lt_zero _)⟩ (by repeat (first | exact trivial | refine And.intro ⟨_, rfl, SV.imp_refl _⟩ ?_)) (by repeat (first | exact trivial | refine And.intro ⟨_, rfl, Ch.imp_refl _⟩ ?_)) ?_
      intro s ⟨k1, k2⟩
      refine T_auto TT_ok rfl ?_
      refine T_condD rfl (fun e5 => ?_) (fun e5 => ?_)
      · have hs : s < 6 := by omega
        have hq6 := (cellsB_iff.1 (hqo.ok r hr)).1
        have hq6 : (q2.getD (r : Int).toNat []).length = 6 := hq6
        refine T_auto TT_ok rfl ?_
        refine T_drawL TT_ok [] [0, 1, 2, 3, 4, 5, 6, 7, 8, 9, 10, 11, 12, 13, 14, 15, 16, 17, 18, 19, 20] rfl rfl fun B0 H0 => ?_
        refine DJ_Qi 5 (spec_Locked_q _) rfl rfl rfl (SVs.imp_refl _) rfl ?_
        refine DJ_onL TT_ok [6, 7, 8, 9, 10, 11, 12, 13, 14, 15, 16, 17, 18, 19, 20] rfl ?_
        refine DJ_endA TT_ok rfl ?_
        refine T_cond rfl (fun e6 => ?_) (fun e6 => ?_)
        · have hbad : ¬ agrAt c q2 r s := by
            unfold agrAt
            rw [hce]
            exact agr_bad.1 e6
          refine T_auto TT_ok rfl ?_
          exact T_ansB TT_ok [(2, none)] rfl rfl ((agreesM_no hS hr fun h => hbad (h ha s hs)).symm)
        · have hgood : agrAt c q2 r s := by
            unfold agrAt
            rw [hce]
            exact Classical.not_not.1 fun h => absurd ((agr_bad.2 h).symm.trans e6) (by simp)
          refine T_auto TT_ok rfl ?_
          refine X_inv (s + 1) ⟨hs, fun j hj => ?_⟩ (by omega) (by repeat (first | exact trivial | refine And.intro ⟨_, rfl, SV.imp_refl _⟩ ?_)) (by repeat (first | exact trivial | refine And.intro ⟨_, rfl, Ch.imp_refl _⟩ ?_))
          by_cases c1 : j = s
          · subst c1; exact hgood
          · exact k2 j (by omega)
      · have hs : s = 6 := by omega
        subst hs
        refine T_auto TT_ok rfl ?_
        exact X_inv (r + 1) ⟨hr, hnext hr fun _ => k2⟩ (by omega) (by repeat (first | exact trivial | refine And.intro ⟨_, rfl, SV.imp_refl _⟩ ?_)) (by repeat (first | exact trivial | refine And.intro ⟨_, rfl, Ch.imp_refl _⟩ ?_))
  · have hr : r = c.places.length := by omega
    subst hr
    refine T_auto TT_ok rfl ?_
    exact T_ansB TT_ok [(2, none)] rfl rfl ((agreesM_yes hS h2).symm)
end Go.Proofs.YthpjoddhlkcciaaGreat
namespace Go.Proofs.YthpjoddhlkcciaaGreat
open Go Go.RowKit
set_option linter.unusedVariables false
set_option linter.unusedSimpArgs false
set_option maxRecDepth 4000
theorem order1_q (a b : RT) : Ans Tryz.prog 103 [] [vR (eT a), vR (eT b)] [] (vI (ordI a.1.stamp b.1.stamp)) := by
  refine con_enter Tryz.func103 rfl rfl rfl fun B0 r_ D_ w0 => ?_
  refine T_auto TT_ok rfl ?_
  refine RJ_Q TT_ok (compare_q _ _) rfl rfl rfl rfl rfl ?_
  exact T_ansI TT_ok [(4, none)] rfl rfl (rfl)
theorem isDoneRaw_q (p : RT) : Ans Tryz.prog 101 [] [vP (eT p)] [] (vB (doneB p.1)) := by
  refine con_enter Tryz.func101 rfl rfl rfl fun B0 r_ D_ w0 => ?_
  refine T_auto TT_ok rfl ?_
  refine T_ansB TT_ok [(2, none)] rfl rfl ?_
  unfold doneB
  rw [Bool.eq_iff_iff]
  simp
  omega
theorem take_filter {α : Type} {z : α} {p : α → Bool} {xs : List α} {i : Nat} (hi : i < xs.length) : (xs.take (i + 1)).filter p = if p (xs.getD i z) = true then (xs.take i).filter p ++ [xs.getD i z] else (xs.take i).filter p := by
  rw [take_succ_getD (z := z) hi, List.filter_append]
  split
  · rename_i h; rw [show [xs.getD i z].filter p = [xs.getD i z] from by simp only [List.filter, h]]
  · rename_i h
    have h : p (xs.getD i z) = false := by simpa using h
    rw [show [xs.getD i z].filter p = [] from by simp only [List.filter, h], List.append_nil]
set_option maxHeartbeats 1000000 in
theorem order_m (c : GCluster) (xs : List RT) (hl : xs.length ≤ 60) (hx : ∀ i j, i < j → j < xs.length → iT (xs.getD i zT) < iT (xs.getD j zT)) :
    MkL Tryz.prog 49 [vP (cRaw c xs)] 1 cInt 0 ((ordN kT zT (fun p => doneB p.1) xs xs.length).map fun p => p.1.id) := by
  refine con_enter Tryz.func49 rfl rfl rfl fun B0 r_ D_ w0 => ?_
  refine T_auto TT_ok rfl ?_
  refine T_view (V_nil 3 33 7 (fun i => eT (([] : List RT).getD i zT)) rfl rfl rfl rfl) ?_
  refine T_loopA (ι := Nat) (fun i => [(14, vI i), (3, .a (.g 33))]) (fun i => [(33, arrC 7 eT zT ((xs.take i).filter fun p => doneB p.1))]) (fun i => i ≤ xs.length) (fun i => xs.length - i) 0 [33] [33] rfl rfl (Nat.zero_le _) (by repeat (first | exact trivial | refine And.intro ⟨_, rfl, SV.imp_refl _⟩ ?_)) (by repeat (first | exact trivial | refine And.intro ⟨_, rfl, Ch.imp_refl _⟩ ?_)) ?_
  intro i h1
  have hfl : ((xs.take i).filter fun p => doneB p.1).length ≤ i := Nat.le_trans (List.length_filter_le _ _) (by rw [List.length_take]; omega)
  refine T_auto TT_ok rfl ?_
  refine T_condD rfl (fun e => ?_) (fun e => ?_)
  · have hi : i < xs.length := by omega
    refine T_auto TT_ok rfl ?_
    refine RJ_Q TT_ok (isDoneRaw_q (xs.getD i zT)) rfl rfl rfl rfl rfl ?_
    refine T_cond rfl (fun e2 => ?_) (fun e2 => ?_)
    · refine T_auto TT_ok rfl ?_
      refine RJ_bs TT_ok 66 (fun _ => eT (xs.getD i zT)) rfl rfl rfl rfl rfl rfl rfl (fun i hi => by rcases i with _ | i <;> first | rfl | omega) (mu1 := []) rfl rfl rfl ?_
      refine RJ_auto TT_ok rfl ?_
      refine RJ_appM TT_ok 33 66 67 rfl rfl rfl rfl rfl rfl rfl rfl rfl rfl rfl rfl ⟨by simp; omega, by unfold maxL; omega⟩ ?_
      refine RJ_auto TT_ok rfl ?_
      refine X_view (V_sw 33 67) ?_
      exact X_inv (i + 1) hi (by omega) (by repeat (first | exact trivial | refine And.intro ⟨_, rfl, SV.imp_refl _⟩ ?_)) ⟨⟨_, rfl, imp_app1 (x := xs.getD i zT) (by rw [take_filter (z := zT) hi, if_pos e2]) rfl⟩, (by repeat (first | exact trivial | refine And.intro ⟨_, rfl, Ch.imp_refl _⟩ ?_))⟩
    · refine T_auto TT_ok rfl ?_
      exact X_inv (i + 1) hi (by omega) (by repeat (first | exact trivial | refine And.intro ⟨_, rfl, SV.imp_refl _⟩ ?_)) ⟨⟨_, rfl, imp_list (by rw [take_filter (z := zT) hi, if_neg (by rw [e2]; simp)])⟩, (by repeat (first | exact trivial | refine And.intro ⟨_, rfl, Ch.imp_refl _⟩ ?_))⟩
  have hi : i = xs.length := by omega
  subst hi
  rw [List.take_length]
  rw [List.take_length] at hfl
  have hfx : ∀ i j, i < j → j < (xs.filter fun p => doneB p.1).length → iT ((xs.filter fun p => doneB p.1).getD i zT) < iT ((xs.filter fun p => doneB p.1).getD j zT) := by
    have hp : xs.Pairwise (fun a b => iT a < iT b) := pair_of (z := zT) fun a b hab hb => hx a b hab hb
    intro i j hij hj
    exact pair_get (z := zT) (hp.filter _) hij hj
  refine T_auto TT_ok rfl ?_
  refine RJ_C TT_ok (Con.sw 900 33 (sortStable_c (xs.filter fun p => doneB p.1) (by omega) hfx)) rfl rfl (SVs.cons (SV.imp_refl _) (SVs.cons (imp_fb (enters_B (by kernel_rfl)) rfl fun args x ⟨n, e1, e2⟩ => by subst e1; subst e2; exact order1_q n.1 n.2) rfl)) (fun _ => rfl) rfl rfl rfl fun ys hy => ?_
  have hys := ord_one (p := fun p : RT => doneB p.1) hx hy.1 hy.2
  have hyl : ys.length ≤ xs.length := by rw [hy.1.length_eq]; exact hfl
  rw [← hys]
  refine RJ_auto TT_ok rfl ?_
  refine T_view (V_nil 6 44 1 (fun i => cInt (([] : List Int).getD i 0)) rfl rfl rfl rfl) ?_
  refine T_loopA (ι := Nat) (fun i => [(28, vI i), (6, .a (.g 44))]) (fun i => [(44, arrC 1 cInt 0 ((ys.take i).map fun p => p.1.id))]) (fun i => i ≤ ys.length) (fun i => ys.length - i) 0 [44] [44] rfl rfl (Nat.zero_le _) (by repeat (first | exact trivial | refine And.intro ⟨_, rfl, SV.imp_refl _⟩ ?_)) (by repeat (first | exact trivial | refine And.intro ⟨_, rfl, Ch.imp_refl _⟩ ?_)) ?_
  intro i h1
  have hl2 : ((ys.take i).map fun p => p.1.id).length = i := by rw [List.length_map, List.length_take]; omega
  refine T_auto TT_ok rfl ?_
  refine T_condD rfl (fun e2 => ?_) (fun e2 => ?_)
  · have hi : i < ys.length := by omega
    refine T_auto TT_ok rfl ?_
    refine RJ_bs TT_ok 66 (fun _ => cInt (ys.getD i zT).1.id) rfl rfl rfl rfl rfl rfl rfl (fun i hi => by rcases i with _ | i <;> first | rfl | omega) (mu1 := []) rfl rfl rfl ?_
    refine RJ_auto TT_ok rfl ?_
    refine RJ_appM TT_ok 44 66 67 rfl rfl rfl rfl rfl rfl rfl rfl rfl rfl rfl rfl ⟨by simp; omega, by unfold maxL; omega⟩ ?_
    refine RJ_auto TT_ok rfl ?_
    refine X_view (V_sw 44 67) ?_
    exact X_inv (i + 1) hi (by omega) (by repeat (first | exact trivial | refine And.intro ⟨_, rfl, SV.imp_refl _⟩ ?_)) ⟨⟨_, rfl, imp_app1 (x := (ys.getD i zT).1.id) (by rw [take_succ_getD (z := zT) hi, List.map_append]; rfl) rfl⟩, (by repeat (first | exact trivial | refine And.intro ⟨_, rfl, Ch.imp_refl _⟩ ?_))⟩
  · have hi : i = ys.length := by omega
    subst hi
    rw [List.take_length]
    refine T_auto TT_ok rfl ?_
    refine T_view (V_sw 44 900) ?_
    refine T_ret TT_ok (()) [(2, none)] rfl rfl ?_ ?_ ?_
    · exact SVs.imp_refl _
    · exact ⟨⟨_, rfl, Ch.imp_refl _⟩, trivial⟩
    · trivial
theorem ordN_cong {α : Type} {z : α} {key : α → Int} {p q : α → Bool} {xs : List α} : ∀ n, (∀ i, i < n → p (xs.getD i z) = q (xs.getD i z)) → ordN key z p xs n = ordN key z q xs n
  | 0, _ => rfl
  | n + 1, h => by rw [ordN, ordN, ordN_cong n fun i hi => h i (by omega), h n (by omega)]
theorem told_done {t : GTx} (h : TxOk t) : (toldM t == 1) = doneB t := by
  unfold toldM doneB
  rw [if_pos h]
  by_cases c : t.phase = 5 ∧ t.done > 0 ∨ t.phase = 6 ∨ t.phase = 7
  · rw [if_pos c, decide_eq_true c]; rfl
  · rw [if_neg c, decide_eq_false c]
    split <;> rfl
end Go.Proofs.YthpjoddhlkcciaaGreat
namespace Go.Proofs.YthpjoddhlkcciaaGreat
open Go Go.RowKit
set_option linter.unusedVariables false
set_option linter.unusedSimpArgs false
set_option maxRecDepth 4000
theorem find_id {c : GCluster} (hok : ClusOk c) {i : Nat} (hi : i < c.txs.length) : 0 ≤ findI c (c.txs.getD i GTx.z).id ∧ (findI c (c.txs.getD i GTx.z).id).toNat = i := by
  have h0 : 0 ≤ findI c (c.txs.getD i GTx.z).id := (any_idx (z := GTx.z)).2 (any_getD (z := GTx.z) hi (by simp))
  obtain ⟨h1, h2⟩ := findI_in h0
  refine ⟨h0, ?_⟩
  rcases Nat.lt_trichotomy (findI c (c.txs.getD i GTx.z).id).toNat i with h | h | h
  · have := ids_rise hok h hi; omega
  · exact h
  · have := ids_rise hok h h1; omega
theorem tell_backP {P : Program} {B : BE} {Z : Tg → PH} {c : GCluster} {xs : List RT} (h1 : xs.map (·.1) = c.txs) (h2 : ∀ i, i < xs.length → RH (Z .r) (xs.getD i zT)) {v : Value} (hv : SV.rel P B Z (vP (cRaw c xs)) v) : SV.rel P B Z (vP (cCluster c)) v := by
  obtain ⟨b, x, vs, e1, e2, e3⟩ := hv
  obtain ⟨vs', q1, q2⟩ := tell_back (P := P) (B := B) h1 h2 (v := .agg vs.toArray) ⟨vs, rfl, e2⟩
  injection q1 with q1
  have q1 : vs = vs' := by simpa using q1
  subst q1
  exact ⟨b, x, vs, e1, q2, e3⟩
theorem note_bad {n : GNote} {rs : Regs} : (!bif (cellRR rs n.region n.slot).head == 4 * n.version + (bif n.used then 2 else 0) then (bif (cellRR rs n.region n.slot).value == n.value then true else false) else false) = noteI rs n := by
  unfold noteI
  generalize cellRR rs n.region n.slot = x
  by_cases h1 : x.head = 4 * n.version + (bif n.used then 2 else 0) <;> by_cases h2 : x.value = n.value <;> simp [h1, h2]
abbrev regsA (n i : Nat) : Regs := List.replicate i cells0 ++ List.replicate (n - i) []
theorem regsA_get {n i j : Nat} (hi : i ≤ n) (hj : j < n) : (regsA n i).getD j [] = if j < i then cells0 else [] := by
  unfold regsA
  by_cases c : j < i
  · rw [if_pos c, List.getD_eq_getElem?_getD, List.getElem?_append_left (by rw [List.length_replicate]; exact c), List.getElem?_replicate, if_pos c]; rfl
  · rw [if_neg c, List.getD_eq_getElem?_getD, List.getElem?_append_right (by rw [List.length_replicate]; omega), List.getElem?_replicate, List.length_replicate, if_pos (by omega)]; rfl
theorem regsA_len {n i : Nat} (hi : i ≤ n) : (regsA n i).length = n := by unfold regsA; rw [List.length_append, List.length_replicate, List.length_replicate]; omega
theorem regsA_set {n i : Nat} (hi : i < n) : (regsA n i).set i cells0 = regsA n (i + 1) := by
  refine List.ext_getElem (by rw [List.length_set, regsA_len (by omega), regsA_len (by omega)]) fun j h1 h2 => ?_
  rw [regsA_len (by omega)] at h2
  have e1 := (set_get (xs := regsA n i) (y := cells0) (show i < (regsA n i).length by rw [regsA_len (by omega)]; exact hi) j : _ = if j = i then cells0 else (regsA n i).getD j [])
  rw [getD_elem h1, regsA_get (by omega) h2] at e1
  rw [e1]
  have e2 := regsA_get (n := n) (i := i + 1) (by omega) h2
  rw [getD_elem (by rw [regsA_len (by omega)]; exact h2)] at e2
  rw [e2]
  by_cases c1 : j = i
  · subst c1; rw [if_pos rfl, if_pos (by omega)]
  · rw [if_neg c1]
    by_cases c2 : j < i
    · rw [if_pos c2, if_pos (by omega)]
    · rw [if_neg c2, if_neg (by omega)]
theorem imp_cells0 {f : Nat → List D} (h : ∀ i, i < 6 → f i = cCell GCell.z := by exact fun _ _ => rfl) : (Ch.arr 2 6 f).imp (arrC 2 cCell GCell.z cells0) := Ch.imp_len rfl fun i hi => by
  have : cells0.getD i GCell.z = GCell.z := by
    have h : i < 6 := hi
    rcases i with _ | _ | _ | _ | _ | _ | i <;> first | rfl | omega
  rw [this]; exact h i hi
theorem imp_sets1 {P : Program} {x : GSet} {sz n : Nat} {f : Nat → List D} (hs : sz = 5) (hn : n = 1) (hf : f 0 = cSet x) : (SV.a (.s .r sz n f)).imp P (vL 5 cSet GSet.z [x]) := by
  subst hs
  refine SV.imp_sl (by rw [hn]; rfl) fun i hi => ?_
  have : i = 0 := by omega
  subst this; exact hf
set_option maxHeartbeats 4000000 in
theorem serial_x {r0 : PH} (c : GCluster) (hok : ClusOk c) (xs : List RT) (x1 : xs.map (·.1) = c.txs) (x2 : ∀ i, i < xs.length → RH r0 (xs.getD i zT)) :
    ConX r0 Tryz.prog 44 [] [vP (cRaw c xs)] [] (fun q : Regs => ∀ q', repL (regs0 c.places.length) (ordC c) = some q' → q = q') (fun _ => [.a (.g 900), vB (repL (regs0 c.places.length) (ordC c)).isSome]) fun q => [(900, arrC 1 cReg [] q)] := by
  have hts := ordC_ok hok
  have hp6 := hok.2.1.1
  have hxl : xs.length = c.txs.length := by rw [← x1, List.length_map]
  have htl : c.txs.length ≤ 60 := hok.1.2.2.2
  have hid : ∀ i, (xs.getD i zT).1 = c.txs.getD i GTx.z := fun i => by rw [← x1]; exact (getD_map (·.1) zT xs i).symm
  have ho := ordC_raw x1
  have hrise : ∀ i j, i < j → j < xs.length → iT (xs.getD i zT) < iT (xs.getD j zT) := fun i j h1 h2 => by
    show (xs.getD i zT).1.id < (xs.getD j zT).1.id
    rw [hid, hid]; exact ids_rise hok h1 (by omega)
  have hc : ordN kT zT pT xs xs.length = ordN kT zT (fun p => doneB p.1) xs xs.length := ordN_cong _ fun i hi => by
    show (toldM (xs.getD i zT).1 == 1) = doneB (xs.getD i zT).1
    rw [hid]; exact told_done (hok.tx (by omega))
  have hol := ordN_len (key := kT) (z := zT) (p := pT) (xs := xs) xs.length
  refine conX_enter Tryz.func44 rfl rfl rfl fun B0 r_ D_ w0 hr => ?_
  refine T_auto TT_ok rfl ?_
  refine RJ_make TT_ok 15 c.places.length rfl rfl rfl rfl rfl rfl rfl ⟨by simp; omega, by unfold maxL; omega⟩ ?_
  refine RJ_auto TT_ok rfl ?_
  refine T_loopA (ι := Nat) (fun i => [(23, vI i)]) (fun i => [(15, arrC 1 cReg [] (regsA c.places.length i))]) (fun i => i ≤ c.places.length) (fun i => c.places.length - i) 0 [15] [] rfl rfl (Nat.zero_le _) (by repeat (first | exact trivial | refine And.intro ⟨_, rfl, SV.imp_refl _⟩ ?_)) ⟨⟨_, rfl, ?_⟩, trivial⟩ ?_
  · have hl0 := regsA_len (Nat.zero_le c.places.length)
    refine Ch.imp_own hl0.symm fun k hk => ?_
    rw [regsA_get (Nat.zero_le _) hk, if_neg (Nat.not_lt_zero _)]
    exact OwnI.n OwnI.e
  intro i h1
  have hal := regsA_len h1
  refine T_auto TT_ok rfl ?_
  refine T_condD rfl (fun e => ?_) (fun e => ?_)
  · have hi : i < c.places.length := by omega
    have hgi : (regsA c.places.length i).getD (i : Int).toNat [] = [] := by rw [Int.toNat_natCast, regsA_get h1 hi, if_neg (by omega)]
    refine T_auto TT_ok rfl ?_
    refine RJ_make TT_ok 28 6 rfl rfl rfl rfl rfl rfl rfl ⟨by decide, by decide⟩ ?_
    refine RJ_view (V_imp 28 (c' := arrC 2 cCell GCell.z cells0) rfl imp_cells0 rfl) ?_
    refine RJ_view (V_carve 15 i 70 (l := [.s .o 2 0 fun j => cCell (([] : List GCell).getD j GCell.z)]) rfl (by rw [hgi]; rfl) rfl rfl rfl rfl ⟨by omega, by omega⟩) ?_
    refine RJ_auto TT_ok rfl ?_
    refine RJ_view (V_pe 29 rfl rfl rfl) ?_
    refine RJ_auto TT_ok rfl ?_
    refine X_view (V_fold 70 0 28 rfl rfl rfl rfl rfl rfl rfl) ?_
    refine X_view (V_uncarve 15 70 rfl rfl rfl rfl rfl rfl rfl) ?_
    exact X_inv (i + 1) hi (by omega) (by repeat (first | exact trivial | refine And.intro ⟨_, rfl, SV.imp_refl _⟩ ?_)) ⟨⟨_, rfl, by rw [← regsA_set hi]; exact set_imp⟩, (by repeat (first | exact trivial | refine And.intro ⟨_, rfl, Ch.imp_refl _⟩ ?_))⟩
  have hi : i = c.places.length := by omega
  subst hi
  rw [show regsA c.places.length c.places.length = regs0 c.places.length from by unfold regsA; rw [Nat.sub_self]; exact List.append_nil _]
  have htx := tx_some_q c (by omega)
  refine T_auto TT_ok rfl ?_
  refine RJ_C TT_ok (Con.sw 900 41 (order_m c xs (by omega) hrise)) rfl rfl (SVs.imp_refl _) (fun _ => rfl) rfl rfl rfl fun _ _ => ?_
  rw [← hc]
  generalize hys : ordN kT zT pT xs xs.length = ys at ho hol ⊢
  have hyl : (ordC c).length = ys.length := by rw [← ho, List.length_map]
  have hyg : ∀ i, (ordC c).getD i GTx.z = (ys.getD i zT).1 := fun i => by rw [← ho]; exact getD_map (·.1) zT ys i
  have hil : (ys.map fun p => p.1.id).length = ys.length := List.length_map _
  refine RJ_auto TT_ok rfl ?_
  refine T_loopA (ι := Nat) (fun i => [(34, vI i)]) (fun i => [(15, arrC 1 cReg [] (regN c.places.length (ordC c) i))]) (fun i => i ≤ ys.length ∧ goesN c.places.length (ordC c) i) (fun i => ys.length - i) 0 [15] [] rfl rfl ⟨Nat.zero_le _, goesN_0 _ _⟩ (by repeat (first | exact trivial | refine And.intro ⟨_, rfl, SV.imp_refl _⟩ ?_)) (by repeat (first | exact trivial | refine And.intro ⟨_, rfl, Ch.imp_refl _⟩ ?_)) ?_
  intro i ⟨h1, h2⟩
  refine T_auto TT_ok rfl ?_
  refine T_condD rfl (fun e => ?_) (fun e => ?_)
  · have e : (i : Int) < ((ys.map fun p => p.1.id).length : Int) := e
    have hi : i < ys.length := by omega
    have hro := goesN_ok hts i (by omega) h2
    have hgs := fun q (hq : stepT _ _ = some q) => goesN_succ (i := i) (by omega) h2 hq
    have hgx := goesN_stop (i := i) (by omega) h2
    have htm : (ordC c).getD i GTx.z ∈ ordC c := getD_mem (by omega)
    have hnb := fun s hs => hts.noteB htm (s := s) hs
    have hsb := fun s hs => hts.setB htm (s := s) hs
    have hto := hts.ok _ htm
    obtain ⟨n0, hn0, hn1⟩ := ordC_mem htm
    obtain ⟨f1, f2⟩ := find_id hok hn0
    rw [hn1] at f1 f2
    have hide : (ys.map fun p => p.1.id).getD (i : Int).toNat 0 = ((ordC c).getD i GTx.z).id := by rw [hyg]; exact getD_map (fun p : RT => p.1.id) zT ys i
    generalize hrs : regN c.places.length (ordC c) i = rs at hro hgs hgx ⊢
    have hrl2 := hro.len
    generalize ht : (ordC c).getD i GTx.z = t at hgs hgx hnb hsb hto f1 f2 hn1 hide
    have h12 : t.reads.length ≤ 12 ∧ t.sets.length ≤ 12 := hto.1.2.2.2.2.2
    refine T_auto TT_ok rfl ?_
    refine RJ_view (V_tell 38 rfl rfl (fun B H v hv => tell_backP x1 (fun i hi => (x2 i hi).mono hr) hv)) ?_
    rw [hide]
    have htq := htx t.id f1
    rw [f2, hn1] at htq
    refine RJ_QR TT_ok (htq) rfl rfl (SVs.imp_refl _) rfl rfl ?_
    refine T_loopA (ι := Nat) (fun k => [(46, vI k)]) (fun _ => []) (fun k => k ≤ t.reads.length ∧ ∀ j, j < k → noteN rs (t.reads.getD j GNote.z) = false) (fun k => t.reads.length - k) 0 [] [] rfl rfl ⟨Nat.zero_le _, fun j hj => absurd hj (Nat.not_lt_zero _)⟩ (by repeat (first | exact trivial | refine And.intro ⟨_, rfl, SV.imp_refl _⟩ ?_)) (by repeat (first | exact trivial | refine And.intro ⟨_, rfl, Ch.imp_refl _⟩ ?_)) ?_
    intro k ⟨k1, k2⟩
    refine T_auto TT_ok rfl ?_
    refine T_condD rfl (fun e2 => ?_) (fun e2 => ?_)
    · have hk : k < t.reads.length := by omega
      obtain ⟨n1, n2, n3⟩ := hnb _ (getD_mem (z := GNote.z) hk)
      have n4 := (noteB_iff.1 n1).2.1
      have n5 := (noteB_iff.1 n1).2.2.1
      generalize hx : t.reads.getD k GNote.z = x at n1 n2 n3 n4 n5
      have q3 := (cellsB_iff.1 (hro.ok x.region.toNat (by omega))).1
      have q4 : 0 ≤ x.region ∧ x.region < (rs.length : Int) := ⟨n2, by rw [hrl2]; exact n3⟩
      have q5 : 0 ≤ x.slot ∧ x.slot < ((rs.getD x.region.toNat []).length : Int) := ⟨n4.1, by rw [q3]; omega⟩
      have hne := note_eq hro (x := x) ⟨n2, n3⟩ n4
      refine T_auto TT_ok rfl ?_
      rw [show t.reads.getD (k : Int).toNat GNote.z = x from hx]
      refine T_drawL TT_ok [] [0, 1, 2, 3, 4, 5, 6, 7, 8, 9, 10, 11, 12, 14, 15, 13, 16, 17] rfl rfl fun B0 H0 => ?_
      refine DJ_Qi 13 (pack_q x.version n5 x.used) rfl rfl rfl (SVs.imp_refl _) rfl ?_
      refine DJ_onL TT_ok [16, 17] rfl ?_
      refine DJ_endA TT_ok rfl ?_
      refine T_cond (b := noteI rs x) (congrArg (fun b => some (vB b)) note_bad) (fun e3 => ?_) (fun e3 => ?_)
      · rw [hne] at e3
        have hno : repL (regs0 c.places.length) (ordC c) = none := hgx (by unfold stepT; rw [if_pos (any_getD (z := GNote.z) hk (by rw [hx]; exact e3))])
        refine T_auto TT_ok rfl ?_
        refine T_view (V_nil 2 900 1 (fun i => cReg (([] : Regs).getD i [])) rfl rfl rfl rfl) ?_
        refine T_ret TT_ok (([] : Regs)) [(2, none), (3, none)] rfl rfl ?_ ?_ ?_
        · rw [hno]; exact SVs.imp_refl _
        · exact ⟨⟨_, rfl, Ch.imp_refl _⟩, trivial⟩
        · exact fun q' hq => by rw [hno] at hq; cases hq
      · rw [hne] at e3
        refine T_auto TT_ok rfl ?_
        refine X_inv (k + 1) ⟨hk, fun j hj => ?_⟩ (by omega) (by repeat (first | exact trivial | refine And.intro ⟨_, rfl, SV.imp_refl _⟩ ?_)) (by repeat (first | exact trivial | refine And.intro ⟨_, rfl, Ch.imp_refl _⟩ ?_))
        by_cases c1 : j = k
        · subst c1; rw [hx]; exact e3
        · exact k2 j (by omega)
    have hk : k = t.reads.length := by omega
    subst hk
    have hrn : ¬ t.reads.any (noteN rs) = true := any_none (z := GNote.z) k2
    refine T_auto TT_ok rfl ?_
    refine T_loopA (ι := Nat) (fun k => [(74, vI k)]) (fun _ => []) (fun k => k ≤ t.sets.length ∧ ∀ j, j < k → verX rs (t.sets.getD j GSet.z) = false) (fun k => t.sets.length - k) 0 [] [] rfl rfl ⟨Nat.zero_le _, fun j hj => absurd hj (Nat.not_lt_zero _)⟩ (by repeat (first | exact trivial | refine And.intro ⟨_, rfl, SV.imp_refl _⟩ ?_)) (by repeat (first | exact trivial | refine And.intro ⟨_, rfl, Ch.imp_refl _⟩ ?_)) ?_
    intro k ⟨k3, k4⟩
    refine T_auto TT_ok rfl ?_
    refine T_condD rfl (fun e3 => ?_) (fun e3 => ?_)
    · have hk : k < t.sets.length := by omega
      obtain ⟨n1, n2, n3⟩ := hsb _ (getD_mem (z := GSet.z) hk)
      have n4 := (setB_iff.1 n1).2.1
      generalize hx : t.sets.getD k GSet.z = x at n1 n2 n3 n4
      obtain ⟨q1, q2⟩ := hro.head (r := x.region) (s := x.slot) ⟨n2, n3⟩ n4
      have q3 := (cellsB_iff.1 (hro.ok x.region.toNat (by omega))).1
      have q4 : 0 ≤ x.region ∧ x.region < (rs.length : Int) := ⟨n2, by rw [hrl2]; exact n3⟩
      have q5 : 0 ≤ x.slot ∧ x.slot < ((rs.getD x.region.toNat []).length : Int) := ⟨n4.1, by rw [q3]; omega⟩
      have q6 := headB_iff.1 q1
      have hin : 0 ≤ (cellRR rs x.region x.slot).head.tdiv 4 ∧ (cellRR rs x.region x.slot).head.tdiv 4 ≤ 1000001 := by rw [tdiv_nn q6.1]; omega
      have hvx : verX rs x = ((cellRR rs x.region x.slot).head.tdiv 4 != x.version) := by unfold verX; rw [ver4 q1]
      unfold cellRR at hin
      refine T_auto TT_ok rfl ?_
      rw [show t.sets.getD (k : Int).toNat GSet.z = x from hx]
      refine T_drawL TT_ok [] [0, 1, 2, 3, 4, 5, 6, 7, 8, 9, 10, 11, 12, 13] rfl rfl fun B0 H0 => ?_
      refine DJ_endA TT_ok rfl ?_
      refine T_cond (b := verX rs x) (by rw [hvx]; rfl) (fun e4 => ?_) (fun e4 => ?_)
      · have hno : repL (regs0 c.places.length) (ordC c) = none := hgx (by unfold stepT; rw [if_neg hrn, if_pos (any_getD (z := GSet.z) hk (by rw [hx]; exact e4))])
        refine T_auto TT_ok rfl ?_
        refine T_view (V_nil 2 900 1 (fun i => cReg (([] : Regs).getD i [])) rfl rfl rfl rfl) ?_
        refine T_ret TT_ok (([] : Regs)) [(2, none), (3, none)] rfl rfl ?_ ?_ ?_
        · rw [hno]; exact SVs.imp_refl _
        · exact ⟨⟨_, rfl, Ch.imp_refl _⟩, trivial⟩
        · exact fun q' hq => by rw [hno] at hq; cases hq
      · refine T_auto TT_ok rfl ?_
        refine X_inv (k + 1) ⟨hk, fun j hj => ?_⟩ (by omega) (by repeat (first | exact trivial | refine And.intro ⟨_, rfl, SV.imp_refl _⟩ ?_)) (by repeat (first | exact trivial | refine And.intro ⟨_, rfl, Ch.imp_refl _⟩ ?_))
        by_cases c1 : j = k
        · subst c1; rw [hx]; exact e4
        · exact k4 j (by omega)
    have hk : k = t.sets.length := by omega
    subst hk
    have hsn : ¬ t.sets.any (verX rs) = true := any_none (z := GSet.z) k4
    obtain ⟨hg1, hg2⟩ := hgs (t.sets.foldl inst1 rs) (by unfold stepT; rw [if_neg hrn, if_neg hsn])
    refine T_auto TT_ok rfl ?_
    refine T_loopA (ι := Nat) (fun k => [(98, vI k)]) (fun k => [(15, arrC 1 cReg [] ((t.sets.take k).foldl inst1 rs))]) (fun k => k ≤ t.sets.length) (fun k => t.sets.length - k) 0 [15] [] rfl rfl (Nat.zero_le _) (by repeat (first | exact trivial | refine And.intro ⟨_, rfl, SV.imp_refl _⟩ ?_)) (by repeat (first | exact trivial | refine And.intro ⟨_, rfl, Ch.imp_refl _⟩ ?_)) ?_
    intro k k5
    refine T_auto TT_ok rfl ?_
    refine T_condD rfl (fun e4 => ?_) (fun e4 => ?_)
    · have hk : k < t.sets.length := by omega
      obtain ⟨n1, n2, n3⟩ := hsb _ (getD_mem (z := GSet.z) hk)
      have hF := foldl_take (z := GSet.z) inst1 rs hk
      have hro2 : RegOk ((t.sets.take k).foldl inst1 rs) c.places.length := insts_ok (fun s hs => hsb s (List.mem_of_mem_take hs)) hro
      generalize (t.sets.take k).foldl inst1 rs = rk at hF hro2 ⊢
      have q4 : 0 ≤ (t.sets.getD (k : Int).toNat GSet.z).region ∧ (t.sets.getD (k : Int).toNat GSet.z).region < (rk.length : Int) := ⟨n2, by rw [hro2.len]; exact n3⟩
      refine T_view (V_carve 15 (t.sets.getD (k : Int).toNat GSet.z).region 70 rfl rfl rfl rfl rfl rfl q4) ?_
      refine T_view (V_open 70 0 71 rfl rfl rfl rfl rfl rfl) ?_
      refine T_auto TT_ok rfl ?_
      refine T_drawL TT_ok [71] [0, 1, 2, 3, 5, 4, 6, 7] rfl rfl fun B0 H0 => ?_
      refine DJ_v0 (V_pe0 105 rfl rfl rfl) ?_
      refine DJ_onL TT_ok [4, 6, 7] rfl ?_
      refine DJ_one 6 rfl (by kernel_rfl) (OJ_bs TT_ok 72 (fun _ => cSet (t.sets.getD k GSet.z)) rfl rfl rfl rfl rfl rfl rfl (fun j hj => by rcases j with _ | j <;> first | rfl | omega) (mu1 := []) rfl rfl rfl (SJ_dj ?_))
      refine DJ_C 7 (Con.sw 900 71 (install_k (rk.getD (t.sets.getD k GSet.z).region.toNat []) [t.sets.getD k GSet.z] (Nat.le_add_left 1 1048575) (hro2.ok _ (by omega)) (fun s hs => by rw [List.mem_singleton.1 hs]; exact n1))) rfl rfl rfl (SVs.cons (SV.imp_refl _) (SVs.cons (imp_sets1 rfl rfl rfl) rfl)) (fun _ => rfl) rfl rfl rfl fun _ _ => ?_
      refine DJ_endA TT_ok rfl ?_
      refine X_view (V_fold 70 0 71 rfl rfl rfl rfl rfl rfl rfl) ?_
      refine X_view (V_uncarve 15 70 rfl rfl rfl rfl rfl rfl rfl) ?_
      exact X_inv (k + 1) hk (by omega) (by repeat (first | exact trivial | refine And.intro ⟨_, rfl, SV.imp_refl _⟩ ?_)) ⟨⟨_, rfl, by rw [hF]; exact set_imp⟩, (by repeat (first | exact trivial | refine And.intro ⟨_, rfl, Ch.imp_refl _⟩ ?_))⟩
    have hk : k = t.sets.length := by omega
    subst hk
    rw [List.take_length, ← hg2]
    refine T_auto TT_ok rfl ?_
    exact X_inv (i + 1) ⟨hi, hg1⟩ (by omega) (by repeat (first | exact trivial | refine And.intro ⟨_, rfl, SV.imp_refl _⟩ ?_)) (by repeat (first | exact trivial | refine And.intro ⟨_, rfl, Ch.imp_refl _⟩ ?_))
  have e : ¬ (i : Int) < ((ys.map fun p => p.1.id).length : Int) := e
  have hi : i = ys.length := by omega
  rw [← hyl] at hi
  subst hi
  have hend := goesN_end h2
  refine T_auto TT_ok rfl ?_
  refine T_view (V_sw 15 900) ?_
  refine T_ret TT_ok ((regN c.places.length (ordC c) (ordC c).length)) [(2, none), (3, none)] rfl rfl ?_ ?_ ?_
  · rw [hend]; exact SVs.imp_refl _
  · exact ⟨⟨_, rfl, Ch.imp_refl _⟩, trivial⟩
  · exact fun q' hq => by rw [hend] at hq; injection hq
end Go.Proofs.YthpjoddhlkcciaaGreat
