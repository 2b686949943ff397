
/-
  What a transaction's Sets are at a region; what it wants; what it checks.
  Functions of package slices, at the program's element types.
  The program's side: Sets at a region.
-/
import Derived.Test.YtamcahpdepepfaaPA
namespace Go.Proofs.Ytamcahpdepepfaa
open Go Go.RowKit
set_option linter.unusedVariables false
set_option linter.unusedSimpArgs false

section
set_option maxRecDepth 4000

def setsAt (r : Int) (xs : List GSet) : List GSet := xs.filter fun s => s.region == r
end

section
set_option maxRecDepth 4000

theorem indexFuncSet_q (xs : List GSet) (hl : xs.length ≤ 1048576) (p : GSet → Bool) : Ans Try.prog 82 [] [vL 5 cSet GSet.z xs, fbO (fun x => [RD.ag (cSet x)]) fun x => .bool (p x)] [] (vI (idxI p xs)) := by
  refine con_enter Try.func82 rfl rfl rfl fun B0 r_ D_ w0 => ?_
  refine T_auto TT_ok rfl ?_
  refine T_loopA (ι := Nat) (fun i => [(8, vI i)]) (fun _ => []) (fun i => i ≤ xs.length ∧ ∀ j, j < i → p (xs.getD j GSet.z) = false) (fun i => xs.length - i) 0 [] [] rfl rfl ⟨Nat.zero_le _, fun j hj => absurd hj (Nat.not_lt_zero _)⟩ (by repeat (first | exact trivial | refine And.intro ⟨_, rfl, SV.imp_refl _⟩ ?_)) (by repeat (first | exact trivial | refine And.intro ⟨_, rfl, Ch.imp_refl _⟩ ?_)) ?_
  intro i ⟨h1, h2⟩
  refine T_auto TT_ok rfl ?_
  refine T_condD rfl (fun e => ?_) (fun e => ?_)
  · have hi : i < xs.length := by omega
    refine T_auto TT_ok rfl ?_
    refine RJ_F rfl rfl rfl ⟨xs.getD i GSet.z, rfl, rfl⟩ ?_
    refine RJ_auto TT_ok rfl ?_
    refine T_cond rfl (fun e2 => ?_) (fun e2 => ?_)
    · refine T_auto TT_ok rfl ?_
      exact T_ansI TT_ok [(4, none)] rfl rfl ((idxI_at hi h2 e2).symm)
    · refine T_auto TT_ok rfl ?_
      exact X_inv (i + 1) ⟨hi, before_succ h2 e2⟩ (by omega) (by repeat (first | exact trivial | refine And.intro ⟨_, rfl, SV.imp_refl _⟩ ?_)) (by repeat (first | exact trivial | refine And.intro ⟨_, rfl, Ch.imp_refl _⟩ ?_))
  · refine T_auto TT_ok rfl ?_
    exact T_ansI TT_ok [(4, none)] rfl rfl ((idxI_no fun j hj => h2 j (by omega)).symm)
theorem cloneSet_m (xs : List GSet) (hl : xs.length ≤ 1048576) : MkL Try.prog 61 [vL 5 cSet GSet.z xs] 5 cSet GSet.z xs := by
  refine con_enter Try.func61 rfl rfl rfl fun B0 r_ D_ w0 => ?_
  refine T_auto TT_ok rfl ?_
  refine RJ_nil TT_ok false rfl rfl rfl rfl rfl rfl fun b hb => ?_
  refine RJ_auto TT_ok rfl ?_
  refine T_cond rfl (fun e => ?_) (fun e => ?_)
  · have h0 := hb e
    refine T_auto TT_ok rfl ?_
    refine T_view (V_nil 2 900 5 (fun i => cSet (([] : List GSet).getD i GSet.z)) rfl rfl rfl rfl) ?_
    refine T_ret TT_ok (()) [(2, none)] rfl rfl ?_ ?_ ?_
    · exact SVs.imp_refl _
    · exact ⟨⟨_, rfl, imp_list (List.length_eq_zero_iff.1 h0).symm⟩, trivial⟩
    · trivial
  · refine T_auto TT_ok rfl ?_
    refine RJ_bs TT_ok 5 (fun i => cSet (([] : List GSet).getD i GSet.z)) rfl rfl rfl rfl rfl rfl rfl (fun i hi => absurd hi (Nat.not_lt_zero _)) (mu1 := []) rfl rfl rfl ?_
    refine RJ_auto TT_ok rfl ?_
    refine RJ_appC TT_ok 5 900 rfl rfl rfl rfl rfl rfl rfl rfl rfl rfl rfl rfl ⟨by simp; omega, by unfold maxL; omega⟩ ?_
    refine RJ_auto TT_ok rfl ?_
    refine T_ret TT_ok (()) [(2, none)] rfl rfl ?_ ?_ ?_
    · exact SVs.imp_refl _
    · exact ⟨⟨_, rfl, imp_app (ys := ([] : List GSet)) (by simp)⟩, trivial⟩
    · trivial
theorem deleteFuncSet_c (xs : List GSet) (hl : xs.length ≤ 1048576) (p : GSet → Bool) : Con Try.prog 60 [900] [.a (.g 900), fbO (fun x => [RD.ag (cSet x)]) fun x => .bool (p x)] [(900, arrC 5 cSet GSet.z xs)] (fun _ : Unit => True) (fun _ => [.a (.g 901)]) fun _ => [(901, arrC 5 cSet GSet.z (xs.filter fun x => !p x))] := by
  refine con_enter Try.func60 rfl rfl rfl fun B0 r_ D_ w0 => ?_
  refine T_auto TT_ok rfl ?_
  refine RJ_Q TT_ok (indexFuncSet_q xs hl p) rfl rfl rfl rfl rfl ?_
  rcases idxI_cases p GSet.z xs with ⟨h1, h2⟩ | ⟨i0, h1, h2, h3, h4⟩
  · refine T_condE rfl (fun _ => ?_) (fun e => absurd h1 e)
    refine T_auto TT_ok rfl ?_
    refine T_view (V_ren 4 900 901 rfl rfl rfl rfl rfl rfl) ?_
    refine T_ret TT_ok (()) [(4, none)] rfl rfl ?_ ?_ ?_
    · exact SVs.imp_refl _
    · exact ⟨⟨_, rfl, imp_list (filter_none h2)⟩, trivial⟩
    · trivial
  rw [h2]
  refine T_condE rfl (fun e => by omega) (fun _ => ?_)
  refine T_auto TT_ok rfl ?_
  refine T_loopA (ι := Nat × (Nat → GSet)) (fun y => [(6, vI y.1), (5, vI ((xs.take y.1).filter fun x => !p x).length)]) (fun y => [(900, .arr 5 xs.length fun k => cSet (y.2 k))])
    (fun y => i0 < y.1 ∧ y.1 ≤ xs.length ∧ (∀ k, k < ((xs.take y.1).filter fun x => !p x).length → y.2 k = ((xs.take y.1).filter fun x => !p x).getD k GSet.z) ∧ ∀ k, y.1 ≤ k → k < xs.length → y.2 k = xs.getD k GSet.z)
    (fun y => xs.length - y.1) (i0 + 1, fun k => xs.getD k GSet.z) [900] [] rfl rfl ⟨Nat.lt_succ_self _, h1, ?_, fun _ _ _ => rfl⟩ ?_ (by repeat (first | exact trivial | refine And.intro ⟨_, rfl, Ch.imp_refl _⟩ ?_)) ?_
  · intro k hk
    rw [del_start h1 h3 h4] at hk ⊢
    exact (getD_take hk).symm
  · refine And.intro ⟨_, rfl, SV.imp_of ?_⟩ (And.intro ⟨_, rfl, SV.imp_of ?_⟩ trivial)
    · simp
    · rw [del_start h1 h3 h4]; simp; omega
  rintro ⟨j, h⟩ ⟨g1, g2, g3, g4⟩
  dsimp only at g1 g2 g3 g4 ⊢
  have hle := filter_take_le xs (fun x => !p x) j
  refine T_auto TT_ok rfl ?_
  refine T_condD rfl (fun e => ?_) (fun e => ?_)
  · have hj : j < xs.length := by omega
    refine T_auto TT_ok rfl ?_
    refine RJ_F rfl rfl rfl ⟨h j, rfl, rfl⟩ ?_
    refine RJ_auto TT_ok rfl ?_
    refine T_condX rfl (fun e2 => ?_) (fun e2 => ?_)
    · have hF := filter_take_yes (z := GSet.z) hj (p := fun x => !p x) (by rw [← g4 j (Nat.le_refl _) hj, e2]; rfl)
      refine T_auto TT_ok rfl ?_
      refine X_inv (j + 1, fun k => if k = ((xs.take j).filter fun x => !p x).length then h j else h k) ⟨by omega, hj, fun k hk => ?_, fun k k1 k2 => ?_⟩ (by show xs.length - (j + 1) < xs.length - j; omega) ?_ ⟨⟨_, rfl, Ch.imp_arr fun k hk => ?_⟩, (by repeat (first | exact trivial | refine And.intro ⟨_, rfl, Ch.imp_refl _⟩ ?_))⟩
      · dsimp only at hk ⊢
        rw [hF, List.length_append, List.length_singleton] at hk
        rw [hF]
        by_cases c : k = ((xs.take j).filter fun x => !p x).length
        · rw [if_pos c, c, getD_app_eq, g4 j (Nat.le_refl _) hj]
        · rw [if_neg c, getD_app_lt (by omega)]; exact g3 k (by omega)
      · dsimp only at k1 ⊢
        rw [if_neg (by omega)]; exact g4 k (by omega) k2
      · refine And.intro ⟨_, rfl, SV.imp_of ?_⟩ (And.intro ⟨_, rfl, SV.imp_of ?_⟩ (by repeat (first | exact trivial | refine And.intro ⟨_, rfl, SV.imp_refl _⟩ ?_)))
        · simp
        · dsimp only; rw [hF]; simp
      · dsimp only
        by_cases c : k = ((xs.take j).filter fun x => !p x).length
        · subst c
          simp only [Int.toNat_natCast, Nat.beq_refl, cond_true, if_true]
          rfl
        · rw [if_neg c]
          have : Nat.beq k (((xs.take j).filter fun x => !p x).length : Int).toNat = false := by
            simp only [Int.toNat_natCast]
            cases e : Nat.beq k ((xs.take j).filter fun x => !p x).length with
            | false => rfl
            | true => exact absurd (Nat.eq_of_beq_eq_true e) c
          rw [this]; rfl
    · have hF := filter_take_no (z := GSet.z) hj (p := fun x => !p x) (by rw [← g4 j (Nat.le_refl _) hj, e2]; rfl)
      refine T_auto TT_ok rfl ?_
      refine X_inv (j + 1, h) ⟨by omega, hj, fun k hk => ?_, fun k k1 k2 => g4 k (by dsimp only at k1; omega) k2⟩ (by show xs.length - (j + 1) < xs.length - j; omega) ?_ (by repeat (first | exact trivial | refine And.intro ⟨_, rfl, Ch.imp_refl _⟩ ?_))
      · dsimp only at hk ⊢
        rw [← hF] at hk ⊢; exact g3 k hk
      · refine And.intro ⟨_, rfl, SV.imp_of ?_⟩ (And.intro ⟨_, rfl, SV.imp_of ?_⟩ (by repeat (first | exact trivial | refine And.intro ⟨_, rfl, SV.imp_refl _⟩ ?_)))
        · simp
        · dsimp only; rw [← hF]
  · have hj : j = xs.length := by omega
    subst hj
    rw [List.take_length] at g3 hle ⊢
    refine T_auto TT_ok rfl ?_
    refine RJ_clear TT_ok 38 900 rfl rfl rfl rfl rfl rfl ⟨by omega, by omega, by omega⟩ rfl rfl rfl rfl ?_
    refine RJ_auto TT_ok rfl ?_
    refine T_view (V_cut 4 900 901 rfl rfl rfl ⟨by omega, by omega, by omega⟩ rfl rfl rfl) ?_
    refine T_ret TT_ok (()) [(4, none)] rfl rfl ?_ ?_ ?_
    · exact SVs.imp_refl _
    · refine ⟨⟨_, rfl, Ch.imp_len (by omega) fun k hk => ?_⟩, trivial⟩
      dsimp only
      rw [if_neg (by omega), g3 _ (by omega)]
      congr 2; omega
    · trivial
theorem indexFuncNote_q (xs : List GNote) (hl : xs.length ≤ 1048576) (p : GNote → Bool) : Ans Try.prog 79 [] [vL 5 cNote GNote.z xs, fbO (fun x => [RD.ag (cNote x)]) fun x => .bool (p x)] [] (vI (idxI p xs)) := by
  refine con_enter Try.func79 rfl rfl rfl fun B0 r_ D_ w0 => ?_
  refine T_auto TT_ok rfl ?_
  refine T_loopA (ι := Nat) (fun i => [(8, vI i)]) (fun _ => []) (fun i => i ≤ xs.length ∧ ∀ j, j < i → p (xs.getD j GNote.z) = false) (fun i => xs.length - i) 0 [] [] rfl rfl ⟨Nat.zero_le _, fun j hj => absurd hj (Nat.not_lt_zero _)⟩ (by repeat (first | exact trivial | refine And.intro ⟨_, rfl, SV.imp_refl _⟩ ?_)) (by repeat (first | exact trivial | refine And.intro ⟨_, rfl, Ch.imp_refl _⟩ ?_)) ?_
  intro i ⟨h1, h2⟩
  refine T_auto TT_ok rfl ?_
  refine T_condD rfl (fun e => ?_) (fun e => ?_)
  · have hi : i < xs.length := by omega
    refine T_auto TT_ok rfl ?_
    refine RJ_F rfl rfl rfl ⟨xs.getD i GNote.z, rfl, rfl⟩ ?_
    refine RJ_auto TT_ok rfl ?_
    refine T_cond rfl (fun e2 => ?_) (fun e2 => ?_)
    · refine T_auto TT_ok rfl ?_
      exact T_ansI TT_ok [(4, none)] rfl rfl ((idxI_at hi h2 e2).symm)
    · refine T_auto TT_ok rfl ?_
      exact X_inv (i + 1) ⟨hi, before_succ h2 e2⟩ (by omega) (by repeat (first | exact trivial | refine And.intro ⟨_, rfl, SV.imp_refl _⟩ ?_)) (by repeat (first | exact trivial | refine And.intro ⟨_, rfl, Ch.imp_refl _⟩ ?_))
  · refine T_auto TT_ok rfl ?_
    exact T_ansI TT_ok [(4, none)] rfl rfl ((idxI_no fun j hj => h2 j (by omega)).symm)
theorem cloneNote_m (xs : List GNote) (hl : xs.length ≤ 1048576) : MkL Try.prog 53 [vL 5 cNote GNote.z xs] 5 cNote GNote.z xs := by
  refine con_enter Try.func53 rfl rfl rfl fun B0 r_ D_ w0 => ?_
  refine T_auto TT_ok rfl ?_
  refine RJ_nil TT_ok false rfl rfl rfl rfl rfl rfl fun b hb => ?_
  refine RJ_auto TT_ok rfl ?_
  refine T_cond rfl (fun e => ?_) (fun e => ?_)
  · have h0 := hb e
    refine T_auto TT_ok rfl ?_
    refine T_view (V_nil 2 900 5 (fun i => cNote (([] : List GNote).getD i GNote.z)) rfl rfl rfl rfl) ?_
    refine T_ret TT_ok (()) [(2, none)] rfl rfl ?_ ?_ ?_
    · exact SVs.imp_refl _
    · exact ⟨⟨_, rfl, imp_list (List.length_eq_zero_iff.1 h0).symm⟩, trivial⟩
    · trivial
  · refine T_auto TT_ok rfl ?_
    refine RJ_bs TT_ok 5 (fun i => cNote (([] : List GNote).getD i GNote.z)) rfl rfl rfl rfl rfl rfl rfl (fun i hi => absurd hi (Nat.not_lt_zero _)) (mu1 := []) rfl rfl rfl ?_
    refine RJ_auto TT_ok rfl ?_
    refine RJ_appC TT_ok 5 900 rfl rfl rfl rfl rfl rfl rfl rfl rfl rfl rfl rfl ⟨by simp; omega, by unfold maxL; omega⟩ ?_
    refine RJ_auto TT_ok rfl ?_
    refine T_ret TT_ok (()) [(2, none)] rfl rfl ?_ ?_ ?_
    · exact SVs.imp_refl _
    · exact ⟨⟨_, rfl, imp_app (ys := ([] : List GNote)) (by simp)⟩, trivial⟩
    · trivial
theorem deleteFuncNote_c (xs : List GNote) (hl : xs.length ≤ 1048576) (p : GNote → Bool) : Con Try.prog 52 [900] [.a (.g 900), fbO (fun x => [RD.ag (cNote x)]) fun x => .bool (p x)] [(900, arrC 5 cNote GNote.z xs)] (fun _ : Unit => True) (fun _ => [.a (.g 901)]) fun _ => [(901, arrC 5 cNote GNote.z (xs.filter fun x => !p x))] := by
  refine con_enter Try.func52 rfl rfl rfl fun B0 r_ D_ w0 => ?_
  refine T_auto TT_ok rfl ?_
  refine RJ_Q TT_ok (indexFuncNote_q xs hl p) rfl rfl rfl rfl rfl ?_
  rcases idxI_cases p GNote.z xs with ⟨h1, h2⟩ | ⟨i0, h1, h2, h3, h4⟩
  · refine T_condE rfl (fun _ => ?_) (fun e => absurd h1 e)
    refine T_auto TT_ok rfl ?_
    refine T_view (V_ren 4 900 901 rfl rfl rfl rfl rfl rfl) ?_
    refine T_ret TT_ok (()) [(4, none)] rfl rfl ?_ ?_ ?_
    · exact SVs.imp_refl _
    · exact ⟨⟨_, rfl, imp_list (filter_none h2)⟩, trivial⟩
    · trivial
  rw [h2]
  refine T_condE rfl (fun e => by omega) (fun _ => ?_)
  refine T_auto TT_ok rfl ?_
  refine T_loopA (ι := Nat × (Nat → GNote)) (fun y => [(6, vI y.1), (5, vI ((xs.take y.1).filter fun x => !p x).length)]) (fun y => [(900, .arr 5 xs.length fun k => cNote (y.2 k))])
    (fun y => i0 < y.1 ∧ y.1 ≤ xs.length ∧ (∀ k, k < ((xs.take y.1).filter fun x => !p x).length → y.2 k = ((xs.take y.1).filter fun x => !p x).getD k GNote.z) ∧ ∀ k, y.1 ≤ k → k < xs.length → y.2 k = xs.getD k GNote.z)
    (fun y => xs.length - y.1) (i0 + 1, fun k => xs.getD k GNote.z) [900] [] rfl rfl ⟨Nat.lt_succ_self _, h1, ?_, fun _ _ _ => rfl⟩ ?_ (by repeat (first | exact trivial | refine And.intro ⟨_, rfl, Ch.imp_refl _⟩ ?_)) ?_
  · intro k hk
    rw [del_start h1 h3 h4] at hk ⊢
    exact (getD_take hk).symm
  · refine And.intro ⟨_, rfl, SV.imp_of ?_⟩ (And.intro ⟨_, rfl, SV.imp_of ?_⟩ trivial)
    · simp
    · rw [del_start h1 h3 h4]; simp; omega
  rintro ⟨j, h⟩ ⟨g1, g2, g3, g4⟩
  dsimp only at g1 g2 g3 g4 ⊢
  have hle := filter_take_le xs (fun x => !p x) j
  refine T_auto TT_ok rfl ?_
  refine T_condD rfl (fun e => ?_) (fun e => ?_)
  · have hj : j < xs.length := by omega
    refine T_auto TT_ok rfl ?_
    refine RJ_F rfl rfl rfl ⟨h j, rfl, rfl⟩ ?_
    refine RJ_auto TT_ok rfl ?_
    refine T_condX rfl (fun e2 => ?_) (fun e2 => ?_)
    · have hF := filter_take_yes (z := GNote.z) hj (p := fun x => !p x) (by rw [← g4 j (Nat.le_refl _) hj, e2]; rfl)
      refine T_auto TT_ok rfl ?_
      refine X_inv (j + 1, fun k => if k = ((xs.take j).filter fun x => !p x).length then h j else h k) ⟨by omega, hj, fun k hk => ?_, fun k k1 k2 => ?_⟩ (by show xs.length - (j + 1) < xs.length - j; omega) ?_ ⟨⟨_, rfl, Ch.imp_arr fun k hk => ?_⟩, (by repeat (first | exact trivial | refine And.intro ⟨_, rfl, Ch.imp_refl _⟩ ?_))⟩
      · dsimp only at hk ⊢
        rw [hF, List.length_append, List.length_singleton] at hk
        rw [hF]
        by_cases c : k = ((xs.take j).filter fun x => !p x).length
        · rw [if_pos c, c, getD_app_eq, g4 j (Nat.le_refl _) hj]
        · rw [if_neg c, getD_app_lt (by omega)]; exact g3 k (by omega)
      · dsimp only at k1 ⊢
        rw [if_neg (by omega)]; exact g4 k (by omega) k2
      · refine And.intro ⟨_, rfl, SV.imp_of ?_⟩ (And.intro ⟨_, rfl, SV.imp_of ?_⟩ (by repeat (first | exact trivial | refine And.intro ⟨_, rfl, SV.imp_refl _⟩ ?_)))
        · simp
        · dsimp only; rw [hF]; simp
      · dsimp only
        by_cases c : k = ((xs.take j).filter fun x => !p x).length
        · subst c
          simp only [Int.toNat_natCast, Nat.beq_refl, cond_true, if_true]
          rfl
        · rw [if_neg c]
          have : Nat.beq k (((xs.take j).filter fun x => !p x).length : Int).toNat = false := by
            simp only [Int.toNat_natCast]
            cases e : Nat.beq k ((xs.take j).filter fun x => !p x).length with
            | false => rfl
            | true => exact absurd (Nat.eq_of_beq_eq_true e) c
          rw [this]; rfl
    · have hF := filter_take_no (z := GNote.z) hj (p := fun x => !p x) (by rw [← g4 j (Nat.le_refl _) hj, e2]; rfl)
      refine T_auto TT_ok rfl ?_
      refine X_inv (j + 1, h) ⟨by omega, hj, fun k hk => ?_, fun k k1 k2 => g4 k (by dsimp only at k1; omega) k2⟩ (by show xs.length - (j + 1) < xs.length - j; omega) ?_ (by repeat (first | exact trivial | refine And.intro ⟨_, rfl, Ch.imp_refl _⟩ ?_))
      · dsimp only at hk ⊢
        rw [← hF] at hk ⊢; exact g3 k hk
      · refine And.intro ⟨_, rfl, SV.imp_of ?_⟩ (And.intro ⟨_, rfl, SV.imp_of ?_⟩ (by repeat (first | exact trivial | refine And.intro ⟨_, rfl, SV.imp_refl _⟩ ?_)))
        · simp
        · dsimp only; rw [← hF]
  · have hj : j = xs.length := by omega
    subst hj
    rw [List.take_length] at g3 hle ⊢
    refine T_auto TT_ok rfl ?_
    refine RJ_clear TT_ok 38 900 rfl rfl rfl rfl rfl rfl ⟨by omega, by omega, by omega⟩ rfl rfl rfl rfl ?_
    refine RJ_auto TT_ok rfl ?_
    refine T_view (V_cut 4 900 901 rfl rfl rfl ⟨by omega, by omega, by omega⟩ rfl rfl rfl) ?_
    refine T_ret TT_ok (()) [(4, none)] rfl rfl ?_ ?_ ?_
    · exact SVs.imp_refl _
    · refine ⟨⟨_, rfl, Ch.imp_len (by omega) fun k hk => ?_⟩, trivial⟩
      dsimp only
      rw [if_neg (by omega), g3 _ (by omega)]
      congr 2; omega
    · trivial
end

section
set_option maxRecDepth 4000

theorem setsOf1_q (s : GSet) (r0 : Int) : Ans Try.prog 62 [] [vR (cSet s), vP [dI r0]] [] (vB (s.region != r0)) := by
  refine con_enter Try.func62 rfl rfl rfl fun B0 r_ D_ w0 => ?_
  refine T_auto TT_ok rfl ?_
  exact T_ansB TT_ok [(3, none)] rfl rfl (rfl)
theorem setsOf_m (t : GTx) (r0 : Int) (hl : t.sets.length ≤ 1048576) : MkL Try.prog 29 [vP (cTx t), vI r0] 5 cSet GSet.z (setsAt r0 t.sets) := by
  refine con_enter Try.func29 rfl rfl rfl fun B0 r_ D_ w0 => ?_
  refine T_auto TT_ok rfl ?_
  refine RJ_C TT_ok (Con.sw 900 9 (cloneSet_m t.sets hl)) rfl rfl (SVs.imp_refl _) (fun _ => rfl) rfl rfl rfl fun _ _ => ?_
  refine RJ_auto TT_ok rfl ?_
  refine RJ_C TT_ok (Con.sw 900 9 (Con.sw 901 11 (deleteFuncSet_c t.sets hl fun s => s.region != r0))) rfl rfl (SVs.cons (SV.imp_refl _) (SVs.cons (imp_fb (enters_B (by kernel_rfl)) rfl fun args x ⟨s, h1, h2⟩ => by subst h1; subst h2; exact setsOf1_q s r0) rfl)) (fun _ => rfl) rfl rfl rfl fun _ _ => ?_
  refine RJ_auto TT_ok rfl ?_
  refine T_view (V_sw 11 900) ?_
  refine T_ret TT_ok (()) [(4, none)] rfl rfl ?_ ?_ ?_
  · exact SVs.imp_refl _
  · exact ⟨⟨_, rfl, imp_list (by simp [setsAt, bne])⟩, trivial⟩
  · trivial
open Classical in
noncomputable def setsOfM (t : GTx) (r0 : Int) : List GSet := if TxOk t then setsAt r0 t.sets else []
theorem impl_SetsOf_m (t : GTx) (r0 : Int) (hl : t.sets.length ≤ 1048576) : MkL Try.prog 14 [vR (cTx t), vI r0] 5 cSet GSet.z (setsOfM t r0) := by
  refine con_enter Try.func14 rfl rfl rfl fun B0 r_ D_ w0 => ?_
  refine T_auto TT_ok rfl ?_
  refine RJ_Q TT_ok (impl_isTx_q t) rfl rfl rfl rfl rfl ?_
  refine T_condX rfl (fun e => ?_) (fun e => ?_)
  · refine T_auto TT_ok rfl ?_
    refine T_view (V_nil 4 900 5 (fun i => cSet (([] : List GSet).getD i GSet.z)) rfl rfl rfl rfl) ?_
    refine T_ret TT_ok (()) [(4, none)] rfl rfl ?_ ?_ ?_
    · exact SVs.imp_refl _
    · exact ⟨⟨_, rfl, imp_list (xs := []) (by rw [setsOfM, if_neg (dec_not.1 e)])⟩, trivial⟩
    · trivial
  · refine T_auto TT_ok rfl ?_
    refine RJ_C TT_ok (setsOf_m t r0 hl) rfl rfl (SVs.imp_refl _) (fun _ => rfl) rfl rfl rfl fun _ _ => ?_
    refine RJ_auto TT_ok rfl ?_
    refine T_ret TT_ok (()) [(4, none)] rfl rfl ?_ ?_ ?_
    · exact SVs.imp_refl _
    · exact ⟨⟨_, rfl, imp_list (by rw [setsOfM, if_pos (dec_iff.1 e)])⟩, trivial⟩
    · trivial
end
end Go.Proofs.Ytamcahpdepepfaa
