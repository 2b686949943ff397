
/-
  The laws of AddRead, AddSet.
-/
import Derived.Test.YtiegllklalplnaaP20
import Derived.Test.YtiegllklalplnaaX4
namespace Go.Proofs.Ytiegllklalplnaa
open Go Go.RowKit
set_option linter.unusedVariables false
set_option linter.unusedSimpArgs false
set_option maxRecDepth 4000

theorem addRead_w (x : GTx) (n : GNote) : wTx (addReadM x n).1 ≤ 26 := by
  unfold addReadM
  split
  · rename_i h
    obtain ⟨_, _, _, _, _, h1, h2⟩ := h.1.1
    unfold addRead'
    cases x.reads.any (atNote n.region n.slot) with
    | true => show x.reads.length + x.sets.length ≤ 26; omega
    | false =>
      cases decide ((x.reads.length : Int) = 12) with
      | true => show x.reads.length + x.sets.length ≤ 26; omega
      | false => show (insL _ n x.reads).length + x.sets.length ≤ 26; simp only [insL, List.length_append, List.length_take, List.length_cons, List.length_drop]; omega
  · exact Nat.zero_le _
theorem addSet_w (x : GTx) (n : GSet) : wTx (addSetM x n).1 ≤ 26 := by
  unfold addSetM
  split
  · rename_i h
    obtain ⟨_, _, _, _, _, h1, h2⟩ := h.1.1
    unfold addSet'
    cases x.sets.any (atCell n.region n.slot) with
    | true => show x.reads.length + (x.sets.set _ _).length ≤ 26; rw [List.length_set]; omega
    | false =>
      cases decide ((x.sets.length : Int) = 12) with
      | true => show x.reads.length + x.sets.length ≤ 26; omega
      | false => show x.reads.length + (insL _ n x.sets).length ≤ 26; simp only [insL, List.length_append, List.length_take, List.length_cons, List.length_drop]; omega
  · exact Nat.zero_le _
theorem exactAddRead_q (x : GTx) (n : GNote) (hb : D.bds maxL (cTx x)) : Ans Try.prog 3 [] [vR (cTx x), vR (cNote n)] [] (vB true) := by
  refine con_enter Try.func3 rfl rfl rfl fun B0 r_ D_ w0 => ?_
  refine T_auto1 TT_ok rfl ?_
  refine T_freeze 2 rfl rfl rfl rfl (fun _ => rfl) (fun _ => rfl) fun r_ => ?_
  refine T_freeze 3 rfl rfl rfl rfl (fun _ => rfl) (fun _ => rfl) fun r_ => ?_
  refine T_auto TT_ok rfl ?_
  refine RJ_Q TT_ok (szTx_g _ hb _ (by decide) (by decide)) rfl rfl rfl rfl rfl ?_
  refine T_condD rfl (fun e => ?_) (fun e => ?_)
  · refine T_auto TT_ok rfl ?_
    exact T_ansB TT_ok [(4, none)] rfl rfl (rfl)
  have hw0 : wTx x ≤ 1048576 := by have := (szI_in e).2.2.2; omega
  have h : D.bds bigN (cTx x) := bd_Tx x hw0
  have hM : (1 : Int) + 5 * x.reads.length + 5 * x.sets.length ≤ 1000000000000 := by unfold wTx at hw0; omega
  have hN : decide ((1 : Int) + 5 * x.reads.length + 5 * x.sets.length < 0) = false := decide_eq_false (by omega)
  have hw := addRead_w x n
  have h3 : D.bds bigN (cTx (addReadM x n).1) := bd_Tx _ (Nat.le_trans hw (by decide))
  have hR : (1 : Int) + 5 * (addReadM x n).1.reads.length + 5 * (addReadM x n).1.sets.length ≤ 1000000000000 := by unfold wTx at hw; omega
  clear e
  refine T_auto TT_ok rfl ?_
  refine T_cut [(2, vP (cTx x)), (3, vP (cNote n)), (6, .a (.p 6 0)), (7, vB (addReadM x n).2)] [(6, .row (rowT (addReadM x n).1 50011 50012)), (50011, arrC 5 cNote GNote.z (addReadM x n).1.reads), (50012, arrC 5 cSet GSet.z (addReadM x n).1.sets)] ?_ fun key => ?_
  rotate_left
  · refine T_drawL TT_ok [] [0, 2, 1, 3, 4, 5, 6, 7, 8, 9, 10] rfl rfl fun B0 H0 => ?_
    refine DJ_two 1 8 rfl rfl (by kernel_rfl) (DJ_Cc (Con.sw 901 72011 (Con.sw 902 72012 (toTx_g x h))) rfl rfl (SVs.imp_refl _) (fun _ => rfl) rfl rfl rfl (fun _ _ => SJ_dj ?_)) (OJ_M TT_ok rfl rfl rfl rfl rfl rfl (SJ_dj ?_))
    · skip
      refine DJ_Qi 3 (toNote_q n) rfl rfl rfl (SVs.imp_refl _) rfl ?_
      refine DJ_two 4 8 rfl rfl (by kernel_rfl) (DJ_Cc (Con.sw 901 50011 (Con.sw 902 50012 (spec_AddRead_m x h n))) rfl rfl (SVs.imp_refl _) (fun _ => rfl) rfl rfl rfl (fun _ _ => SJ_dj ?_)) (OJ_M TT_ok rfl rfl rfl rfl rfl rfl (SJ_dj ?_))
      · refine DJ_onL TT_ok [5, 6, 7, 8, 9, 10] rfl ?_
        refine DJ_one 8 rfl (by kernel_rfl) (OJ_M TT_ok rfl rfl rfl rfl rfl rfl (SJ_dj ?_))
        refine DJ_one 9 rfl (by kernel_rfl) (OJ_M TT_ok rfl rfl rfl rfl rfl rfl (SJ_dj ?_))
        refine DJ_onL TT_ok [10] rfl ?_
        exact DJ_endK key (by repeat (first | exact trivial | refine And.intro ⟨_, rfl, SV.imp_refl _⟩ ?_)) (by repeat (first | exact trivial | refine And.intro ⟨_, rfl, Ch.imp_refl _⟩ ?_))
      · skip
        refine DJ_C 4 (Con.sw 901 50011 (Con.sw 902 50012 (spec_AddRead_m x h n))) rfl rfl rfl (SVs.imp_refl _) (fun _ => rfl) rfl rfl rfl fun _ _ => ?_
        refine DJ_onL TT_ok [5, 6, 7, 9, 10] rfl ?_
        refine DJ_one 9 rfl (by kernel_rfl) (OJ_M TT_ok rfl rfl rfl rfl rfl rfl (SJ_dj ?_))
        refine DJ_onL TT_ok [10] rfl ?_
        exact DJ_endK key (by repeat (first | exact trivial | refine And.intro ⟨_, rfl, SV.imp_refl _⟩ ?_)) (by repeat (first | exact trivial | refine And.intro ⟨_, rfl, Ch.imp_refl _⟩ ?_))
    · skip
      refine DJ_C 1 (Con.sw 901 72011 (Con.sw 902 72012 (toTx_g x h))) rfl rfl rfl (SVs.imp_refl _) (fun _ => rfl) rfl rfl rfl fun _ _ => ?_
      refine DJ_Qi 3 (toNote_q n) rfl rfl rfl (SVs.imp_refl _) rfl ?_
      refine DJ_C 4 (Con.sw 901 50011 (Con.sw 902 50012 (spec_AddRead_m x h n))) rfl rfl rfl (SVs.imp_refl _) (fun _ => rfl) rfl rfl rfl fun _ _ => ?_
      refine DJ_onL TT_ok [5, 6, 7, 9, 10] rfl ?_
      refine DJ_one 9 rfl (by kernel_rfl) (OJ_M TT_ok rfl rfl rfl rfl rfl rfl (SJ_dj ?_))
      refine DJ_onL TT_ok [10] rfl ?_
      exact DJ_endK key (by repeat (first | exact trivial | refine And.intro ⟨_, rfl, SV.imp_refl _⟩ ?_)) (by repeat (first | exact trivial | refine And.intro ⟨_, rfl, Ch.imp_refl _⟩ ?_))
  refine X_go TT_ok rfl ?_
  refine RJ_C TT_ok (Con.sw 901 7211 (Con.sw 902 7212 (toTx_g x h))) rfl rfl (SVs.imp_refl _) (fun _ => rfl) rfl rfl rfl fun _ _ => ?_
  refine RJ_auto TT_ok rfl ?_
  refine T_cut [(2, vP (cTx x)), (3, vP (cNote n)), (6, .a (.p 6 0)), (7, vB (addReadM x n).2), (8, .a (.p 8 0)), (9, .a (.p 9 0)), (10, vB (addReadM x n).2)] [(6, .row (rowT (addReadM x n).1 50011 50012)), (50011, arrC 5 cNote GNote.z (addReadM x n).1.reads), (50012, arrC 5 cSet GSet.z (addReadM x n).1.sets), (8, .row (rowT x 7211 7212)), (7211, arrC 5 cNote GNote.z x.reads), (7212, arrC 5 cSet GSet.z x.sets), (9, .row (rowT (addReadM x n).1 50021 50022)), (50021, arrC 5 cNote GNote.z (addReadM x n).1.reads), (50022, arrC 5 cSet GSet.z (addReadM x n).1.sets)] ?_ fun key => ?_
  rotate_left
  · refine T_drawL TT_ok [] [0, 1, 2, 3, 4, 5, 6, 7, 8, 9] rfl rfl fun B0 H0 => ?_
    refine DJ_Qi 2 (toNote_q n) rfl rfl rfl (SVs.imp_refl _) rfl ?_
    refine DJ_two 3 7 rfl rfl (by kernel_rfl) (DJ_Cc (Con.sw 901 50021 (Con.sw 902 50022 (impl_AddRead_m x h n))) rfl rfl (SVs.imp_refl _) (fun _ => rfl) rfl rfl rfl (fun _ _ => SJ_dj ?_)) (OJ_M TT_ok rfl rfl rfl rfl rfl rfl (SJ_dj ?_))
    · refine DJ_onL TT_ok [4, 5, 6, 7, 8, 9] rfl ?_
      refine DJ_one 7 rfl (by kernel_rfl) (OJ_M TT_ok rfl rfl rfl rfl rfl rfl (SJ_dj ?_))
      refine DJ_one 8 rfl (by kernel_rfl) (OJ_M TT_ok rfl rfl rfl rfl rfl rfl (SJ_dj ?_))
      refine DJ_onL TT_ok [9] rfl ?_
      exact DJ_endK key (by repeat (first | exact trivial | refine And.intro ⟨_, rfl, SV.imp_refl _⟩ ?_)) (by repeat (first | exact trivial | refine And.intro ⟨_, rfl, Ch.imp_refl _⟩ ?_))
    · skip
      refine DJ_C 3 (Con.sw 901 50021 (Con.sw 902 50022 (impl_AddRead_m x h n))) rfl rfl rfl (SVs.imp_refl _) (fun _ => rfl) rfl rfl rfl fun _ _ => ?_
      refine DJ_onL TT_ok [4, 5, 6, 8, 9] rfl ?_
      refine DJ_one 8 rfl (by kernel_rfl) (OJ_M TT_ok rfl rfl rfl rfl rfl rfl (SJ_dj ?_))
      refine DJ_onL TT_ok [9] rfl ?_
      exact DJ_endK key (by repeat (first | exact trivial | refine And.intro ⟨_, rfl, SV.imp_refl _⟩ ?_)) (by repeat (first | exact trivial | refine And.intro ⟨_, rfl, Ch.imp_refl _⟩ ?_))
  refine X_go TT_ok rfl ?_
  refine RJ_Q TT_ok (eqTx_g _ h3) rfl rfl rfl rfl rfl ?_
  refine T_cond rfl (fun e => by simp at e) (fun _ => ?_)
  refine T_auto TT_ok rfl ?_
  refine T_drawA TT_ok [] rfl rfl fun B0 H0 => ?_
  refine DJ_C 2 (Con.sw 901 7241 (Con.sw 902 7242 (toTx_g x h))) rfl rfl rfl (SVs.imp_refl _) (fun _ => rfl) rfl rfl rfl fun _ _ => ?_
  refine DJ_Q1 3 (eqTx_g x h) rfl rfl rfl rfl rfl ?_
  refine DJ_on TT_ok rfl ?_
  refine DJ_endA TT_ok rfl ?_
  refine T_cond rfl (fun e => by cases e) (fun _ => ?_)
  refine T_auto TT_ok rfl ?_
  refine RJ_C TT_ok (Con.sw 901 7211 (Con.sw 902 7212 (markTx_g x h 1 (by decide) hM))) rfl rfl (SVs.imp_refl _) (fun _ => rfl) rfl rfl rfl fun _ _ => ?_
  refine RJ_auto TT_ok rfl ?_
  refine RJ_Q TT_ok (eqTx_g _ h3) rfl rfl rfl rfl rfl ?_
  refine T_cond rfl (fun e => by rw [hN] at e; simp at e) (fun _ => ?_)
  refine T_auto TT_ok rfl ?_
  refine RJ_C TT_ok (Con.sw 901 50021 (Con.sw 902 50022 (markTx_g _ h3 1 (by decide) hR))) rfl rfl (SVs.imp_refl _) (fun _ => rfl) rfl rfl rfl fun _ _ => ?_
  refine RJ_auto TT_ok rfl ?_
  refine RJ_Q TT_ok (heldTx_g _ h3 1 (by decide) hR) rfl rfl rfl rfl rfl ?_
  refine T_condD rfl (fun e => by omega) (fun _ => ?_)
  refine T_auto TT_ok rfl ?_
  refine T_condN rfl (fun e => absurd rfl e) (fun _ => ?_)
  refine T_auto TT_ok rfl ?_
  refine T_cut [(2, vP (cTx x)), (3, vP (cNote n)), (6, .a (.p 6 0)), (7, vB (addReadM x n).2), (9, .a (.p 9 0)), (12, vI (1 + 5 * (addReadM x n).1.reads.length + 5 * (addReadM x n).1.sets.length)), (14, .a (.p 14 0)), (15, vB (addReadM x n).2)] [(6, .row (rowT (addReadM x n).1 50011 50012)), (50011, arrC 5 cNote GNote.z (addReadM x n).1.reads), (50012, arrC 5 cSet GSet.z (addReadM x n).1.sets), (9, .row (rowT (addReadM x n).1 50021 50022)), (50021, arrC 5 cNote GNote.z (mkTx0 (addReadM x n).1 1).reads), (50022, arrC 5 cSet GSet.z (mkTx0 (addReadM x n).1 1).sets), (14, .row (rowT (addReadM x n).1 50031 50032)), (50031, arrC 5 cNote GNote.z (addReadM x n).1.reads), (50032, arrC 5 cSet GSet.z (addReadM x n).1.sets)] ?_ fun key => ?_
  rotate_left
  · refine T_drawL TT_ok [] [0, 2, 1, 3, 4, 5, 6, 7, 8, 9, 10] rfl rfl fun B0 H0 => ?_
    refine DJ_two 1 8 rfl rfl (by kernel_rfl) (DJ_Cc (Con.sw 901 75511 (Con.sw 902 75512 (toTx_g x h))) rfl rfl (SVs.imp_refl _) (fun _ => rfl) rfl rfl rfl (fun _ _ => SJ_dj ?_)) (OJ_M TT_ok rfl rfl rfl rfl rfl rfl (SJ_dj ?_))
    · skip
      refine DJ_Qi 3 (toNote_q n) rfl rfl rfl (SVs.imp_refl _) rfl ?_
      refine DJ_two 4 8 rfl rfl (by kernel_rfl) (DJ_Cc (Con.sw 901 50031 (Con.sw 902 50032 (impl_AddRead_m x h n))) rfl rfl (SVs.imp_refl _) (fun _ => rfl) rfl rfl rfl (fun _ _ => SJ_dj ?_)) (OJ_M TT_ok rfl rfl rfl rfl rfl rfl (SJ_dj ?_))
      · refine DJ_onL TT_ok [5, 6, 7, 8, 9, 10] rfl ?_
        refine DJ_one 8 rfl (by kernel_rfl) (OJ_M TT_ok rfl rfl rfl rfl rfl rfl (SJ_dj ?_))
        refine DJ_one 9 rfl (by kernel_rfl) (OJ_M TT_ok rfl rfl rfl rfl rfl rfl (SJ_dj ?_))
        refine DJ_onL TT_ok [10] rfl ?_
        exact DJ_endK key (by repeat (first | exact trivial | refine And.intro ⟨_, rfl, SV.imp_refl _⟩ ?_)) (by repeat (first | exact trivial | refine And.intro ⟨_, rfl, Ch.imp_refl _⟩ ?_))
      · skip
        refine DJ_C 4 (Con.sw 901 50031 (Con.sw 902 50032 (impl_AddRead_m x h n))) rfl rfl rfl (SVs.imp_refl _) (fun _ => rfl) rfl rfl rfl fun _ _ => ?_
        refine DJ_onL TT_ok [5, 6, 7, 9, 10] rfl ?_
        refine DJ_one 9 rfl (by kernel_rfl) (OJ_M TT_ok rfl rfl rfl rfl rfl rfl (SJ_dj ?_))
        refine DJ_onL TT_ok [10] rfl ?_
        exact DJ_endK key (by repeat (first | exact trivial | refine And.intro ⟨_, rfl, SV.imp_refl _⟩ ?_)) (by repeat (first | exact trivial | refine And.intro ⟨_, rfl, Ch.imp_refl _⟩ ?_))
    · skip
      refine DJ_C 1 (Con.sw 901 75511 (Con.sw 902 75512 (toTx_g x h))) rfl rfl rfl (SVs.imp_refl _) (fun _ => rfl) rfl rfl rfl fun _ _ => ?_
      refine DJ_Qi 3 (toNote_q n) rfl rfl rfl (SVs.imp_refl _) rfl ?_
      refine DJ_C 4 (Con.sw 901 50031 (Con.sw 902 50032 (impl_AddRead_m x h n))) rfl rfl rfl (SVs.imp_refl _) (fun _ => rfl) rfl rfl rfl fun _ _ => ?_
      refine DJ_onL TT_ok [5, 6, 7, 9, 10] rfl ?_
      refine DJ_one 9 rfl (by kernel_rfl) (OJ_M TT_ok rfl rfl rfl rfl rfl rfl (SJ_dj ?_))
      refine DJ_onL TT_ok [10] rfl ?_
      exact DJ_endK key (by repeat (first | exact trivial | refine And.intro ⟨_, rfl, SV.imp_refl _⟩ ?_)) (by repeat (first | exact trivial | refine And.intro ⟨_, rfl, Ch.imp_refl _⟩ ?_))
  refine X_go TT_ok rfl ?_
  refine RJ_Q TT_ok (eqTx_g _ h3) rfl rfl rfl rfl rfl ?_
  refine T_cond rfl (fun e => by simp at e) (fun _ => ?_)
  refine T_auto TT_ok rfl ?_
  refine RJ_Q TT_ok (heldTx_g _ h3 1 (by decide) hR) rfl rfl rfl rfl rfl ?_
  refine T_condD rfl (fun e => by omega) (fun _ => ?_)
  refine T_auto TT_ok rfl ?_
  refine T_condN rfl (fun e => absurd rfl e) (fun _ => ?_)
  refine T_auto TT_ok rfl ?_
  exact T_ansB TT_ok [(4, none)] rfl rfl (rfl)
theorem exactAddSet_q (x : GTx) (n : GSet) (hb : D.bds maxL (cTx x)) : Ans Try.prog 4 [] [vR (cTx x), vR (cSet n)] [] (vB true) := by
  refine con_enter Try.func4 rfl rfl rfl fun B0 r_ D_ w0 => ?_
  refine T_auto1 TT_ok rfl ?_
  refine T_freeze 2 rfl rfl rfl rfl (fun _ => rfl) (fun _ => rfl) fun r_ => ?_
  refine T_freeze 3 rfl rfl rfl rfl (fun _ => rfl) (fun _ => rfl) fun r_ => ?_
  refine T_auto TT_ok rfl ?_
  refine RJ_Q TT_ok (szTx_g _ hb _ (by decide) (by decide)) rfl rfl rfl rfl rfl ?_
  refine T_condD rfl (fun e => ?_) (fun e => ?_)
  · refine T_auto TT_ok rfl ?_
    exact T_ansB TT_ok [(4, none)] rfl rfl (rfl)
  have hw0 : wTx x ≤ 1048576 := by have := (szI_in e).2.2.2; omega
  have h : D.bds bigN (cTx x) := bd_Tx x hw0
  have hM : (1 : Int) + 5 * x.reads.length + 5 * x.sets.length ≤ 1000000000000 := by unfold wTx at hw0; omega
  have hN : decide ((1 : Int) + 5 * x.reads.length + 5 * x.sets.length < 0) = false := decide_eq_false (by omega)
  have hw := addSet_w x n
  have h3 : D.bds bigN (cTx (addSetM x n).1) := bd_Tx _ (Nat.le_trans hw (by decide))
  have hR : (1 : Int) + 5 * (addSetM x n).1.reads.length + 5 * (addSetM x n).1.sets.length ≤ 1000000000000 := by unfold wTx at hw; omega
  clear e
  refine T_auto TT_ok rfl ?_
  refine T_cut [(2, vP (cTx x)), (3, vP (cSet n)), (6, .a (.p 6 0)), (7, vB (addSetM x n).2)] [(6, .row (rowT (addSetM x n).1 50011 50012)), (50011, arrC 5 cNote GNote.z (addSetM x n).1.reads), (50012, arrC 5 cSet GSet.z (addSetM x n).1.sets)] ?_ fun key => ?_
  rotate_left
  · refine T_drawL TT_ok [] [0, 2, 1, 3, 4, 5, 6, 7, 8, 9, 10] rfl rfl fun B0 H0 => ?_
    refine DJ_two 1 8 rfl rfl (by kernel_rfl) (DJ_Cc (Con.sw 901 72011 (Con.sw 902 72012 (toTx_g x h))) rfl rfl (SVs.imp_refl _) (fun _ => rfl) rfl rfl rfl (fun _ _ => SJ_dj ?_)) (OJ_M TT_ok rfl rfl rfl rfl rfl rfl (SJ_dj ?_))
    · skip
      refine DJ_Qi 3 (toSet_q n) rfl rfl rfl (SVs.imp_refl _) rfl ?_
      refine DJ_two 4 8 rfl rfl (by kernel_rfl) (DJ_Cc (Con.sw 901 50011 (Con.sw 902 50012 (spec_AddSet_m x h n))) rfl rfl (SVs.imp_refl _) (fun _ => rfl) rfl rfl rfl (fun _ _ => SJ_dj ?_)) (OJ_M TT_ok rfl rfl rfl rfl rfl rfl (SJ_dj ?_))
      · refine DJ_onL TT_ok [5, 6, 7, 8, 9, 10] rfl ?_
        refine DJ_one 8 rfl (by kernel_rfl) (OJ_M TT_ok rfl rfl rfl rfl rfl rfl (SJ_dj ?_))
        refine DJ_one 9 rfl (by kernel_rfl) (OJ_M TT_ok rfl rfl rfl rfl rfl rfl (SJ_dj ?_))
        refine DJ_onL TT_ok [10] rfl ?_
        exact DJ_endK key (by repeat (first | exact trivial | refine And.intro ⟨_, rfl, SV.imp_refl _⟩ ?_)) (by repeat (first | exact trivial | refine And.intro ⟨_, rfl, Ch.imp_refl _⟩ ?_))
      · skip
        refine DJ_C 4 (Con.sw 901 50011 (Con.sw 902 50012 (spec_AddSet_m x h n))) rfl rfl rfl (SVs.imp_refl _) (fun _ => rfl) rfl rfl rfl fun _ _ => ?_
        refine DJ_onL TT_ok [5, 6, 7, 9, 10] rfl ?_
        refine DJ_one 9 rfl (by kernel_rfl) (OJ_M TT_ok rfl rfl rfl rfl rfl rfl (SJ_dj ?_))
        refine DJ_onL TT_ok [10] rfl ?_
        exact DJ_endK key (by repeat (first | exact trivial | refine And.intro ⟨_, rfl, SV.imp_refl _⟩ ?_)) (by repeat (first | exact trivial | refine And.intro ⟨_, rfl, Ch.imp_refl _⟩ ?_))
    · skip
      refine DJ_C 1 (Con.sw 901 72011 (Con.sw 902 72012 (toTx_g x h))) rfl rfl rfl (SVs.imp_refl _) (fun _ => rfl) rfl rfl rfl fun _ _ => ?_
      refine DJ_Qi 3 (toSet_q n) rfl rfl rfl (SVs.imp_refl _) rfl ?_
      refine DJ_C 4 (Con.sw 901 50011 (Con.sw 902 50012 (spec_AddSet_m x h n))) rfl rfl rfl (SVs.imp_refl _) (fun _ => rfl) rfl rfl rfl fun _ _ => ?_
      refine DJ_onL TT_ok [5, 6, 7, 9, 10] rfl ?_
      refine DJ_one 9 rfl (by kernel_rfl) (OJ_M TT_ok rfl rfl rfl rfl rfl rfl (SJ_dj ?_))
      refine DJ_onL TT_ok [10] rfl ?_
      exact DJ_endK key (by repeat (first | exact trivial | refine And.intro ⟨_, rfl, SV.imp_refl _⟩ ?_)) (by repeat (first | exact trivial | refine And.intro ⟨_, rfl, Ch.imp_refl _⟩ ?_))
  refine X_go TT_ok rfl ?_
  refine RJ_C TT_ok (Con.sw 901 7211 (Con.sw 902 7212 (toTx_g x h))) rfl rfl (SVs.imp_refl _) (fun _ => rfl) rfl rfl rfl fun _ _ => ?_
  refine RJ_auto TT_ok rfl ?_
  refine T_cut [(2, vP (cTx x)), (3, vP (cSet n)), (6, .a (.p 6 0)), (7, vB (addSetM x n).2), (8, .a (.p 8 0)), (9, .a (.p 9 0)), (10, vB (addSetM x n).2)] [(6, .row (rowT (addSetM x n).1 50011 50012)), (50011, arrC 5 cNote GNote.z (addSetM x n).1.reads), (50012, arrC 5 cSet GSet.z (addSetM x n).1.sets), (8, .row (rowT x 7211 7212)), (7211, arrC 5 cNote GNote.z x.reads), (7212, arrC 5 cSet GSet.z x.sets), (9, .row (rowT (addSetM x n).1 50021 50022)), (50021, arrC 5 cNote GNote.z (addSetM x n).1.reads), (50022, arrC 5 cSet GSet.z (addSetM x n).1.sets)] ?_ fun key => ?_
  rotate_left
  · refine T_drawL TT_ok [] [0, 1, 2, 3, 4, 5, 6, 7, 8, 9] rfl rfl fun B0 H0 => ?_
    refine DJ_Qi 2 (toSet_q n) rfl rfl rfl (SVs.imp_refl _) rfl ?_
    refine DJ_two 3 7 rfl rfl (by kernel_rfl) (DJ_Cc (Con.sw 901 50021 (Con.sw 902 50022 (impl_AddSet_m x h n))) rfl rfl (SVs.imp_refl _) (fun _ => rfl) rfl rfl rfl (fun _ _ => SJ_dj ?_)) (OJ_M TT_ok rfl rfl rfl rfl rfl rfl (SJ_dj ?_))
    · refine DJ_onL TT_ok [4, 5, 6, 7, 8, 9] rfl ?_
      refine DJ_one 7 rfl (by kernel_rfl) (OJ_M TT_ok rfl rfl rfl rfl rfl rfl (SJ_dj ?_))
      refine DJ_one 8 rfl (by kernel_rfl) (OJ_M TT_ok rfl rfl rfl rfl rfl rfl (SJ_dj ?_))
      refine DJ_onL TT_ok [9] rfl ?_
      exact DJ_endK key (by repeat (first | exact trivial | refine And.intro ⟨_, rfl, SV.imp_refl _⟩ ?_)) (by repeat (first | exact trivial | refine And.intro ⟨_, rfl, Ch.imp_refl _⟩ ?_))
    · skip
      refine DJ_C 3 (Con.sw 901 50021 (Con.sw 902 50022 (impl_AddSet_m x h n))) rfl rfl rfl (SVs.imp_refl _) (fun _ => rfl) rfl rfl rfl fun _ _ => ?_
      refine DJ_onL TT_ok [4, 5, 6, 8, 9] rfl ?_
      refine DJ_one 8 rfl (by kernel_rfl) (OJ_M TT_ok rfl rfl rfl rfl rfl rfl (SJ_dj ?_))
      refine DJ_onL TT_ok [9] rfl ?_
      exact DJ_endK key (by repeat (first | exact trivial | refine And.intro ⟨_, rfl, SV.imp_refl _⟩ ?_)) (by repeat (first | exact trivial | refine And.intro ⟨_, rfl, Ch.imp_refl _⟩ ?_))
  refine X_go TT_ok rfl ?_
  refine RJ_Q TT_ok (eqTx_g _ h3) rfl rfl rfl rfl rfl ?_
  refine T_cond rfl (fun e => by simp at e) (fun _ => ?_)
  refine T_auto TT_ok rfl ?_
  refine T_drawA TT_ok [] rfl rfl fun B0 H0 => ?_
  refine DJ_C 2 (Con.sw 901 7241 (Con.sw 902 7242 (toTx_g x h))) rfl rfl rfl (SVs.imp_refl _) (fun _ => rfl) rfl rfl rfl fun _ _ => ?_
  refine DJ_Q1 3 (eqTx_g x h) rfl rfl rfl rfl rfl ?_
  refine DJ_on TT_ok rfl ?_
  refine DJ_endA TT_ok rfl ?_
  refine T_cond rfl (fun e => by cases e) (fun _ => ?_)
  refine T_auto TT_ok rfl ?_
  refine RJ_C TT_ok (Con.sw 901 7211 (Con.sw 902 7212 (markTx_g x h 1 (by decide) hM))) rfl rfl (SVs.imp_refl _) (fun _ => rfl) rfl rfl rfl fun _ _ => ?_
  refine RJ_auto TT_ok rfl ?_
  refine RJ_Q TT_ok (eqTx_g _ h3) rfl rfl rfl rfl rfl ?_
  refine T_cond rfl (fun e => by rw [hN] at e; simp at e) (fun _ => ?_)
  refine T_auto TT_ok rfl ?_
  refine RJ_C TT_ok (Con.sw 901 50021 (Con.sw 902 50022 (markTx_g _ h3 1 (by decide) hR))) rfl rfl (SVs.imp_refl _) (fun _ => rfl) rfl rfl rfl fun _ _ => ?_
  refine RJ_auto TT_ok rfl ?_
  refine RJ_Q TT_ok (heldTx_g _ h3 1 (by decide) hR) rfl rfl rfl rfl rfl ?_
  refine T_condD rfl (fun e => by omega) (fun _ => ?_)
  refine T_auto TT_ok rfl ?_
  refine T_condN rfl (fun e => absurd rfl e) (fun _ => ?_)
  refine T_auto TT_ok rfl ?_
  refine T_cut [(2, vP (cTx x)), (3, vP (cSet n)), (6, .a (.p 6 0)), (7, vB (addSetM x n).2), (9, .a (.p 9 0)), (12, vI (1 + 5 * (addSetM x n).1.reads.length + 5 * (addSetM x n).1.sets.length)), (14, .a (.p 14 0)), (15, vB (addSetM x n).2)] [(6, .row (rowT (addSetM x n).1 50011 50012)), (50011, arrC 5 cNote GNote.z (addSetM x n).1.reads), (50012, arrC 5 cSet GSet.z (addSetM x n).1.sets), (9, .row (rowT (addSetM x n).1 50021 50022)), (50021, arrC 5 cNote GNote.z (mkTx0 (addSetM x n).1 1).reads), (50022, arrC 5 cSet GSet.z (mkTx0 (addSetM x n).1 1).sets), (14, .row (rowT (addSetM x n).1 50031 50032)), (50031, arrC 5 cNote GNote.z (addSetM x n).1.reads), (50032, arrC 5 cSet GSet.z (addSetM x n).1.sets)] ?_ fun key => ?_
  rotate_left
  · refine T_drawL TT_ok [] [0, 2, 1, 3, 4, 5, 6, 7, 8, 9, 10] rfl rfl fun B0 H0 => ?_
    refine DJ_two 1 8 rfl rfl (by kernel_rfl) (DJ_Cc (Con.sw 901 75511 (Con.sw 902 75512 (toTx_g x h))) rfl rfl (SVs.imp_refl _) (fun _ => rfl) rfl rfl rfl (fun _ _ => SJ_dj ?_)) (OJ_M TT_ok rfl rfl rfl rfl rfl rfl (SJ_dj ?_))
    · skip
      refine DJ_Qi 3 (toSet_q n) rfl rfl rfl (SVs.imp_refl _) rfl ?_
      refine DJ_two 4 8 rfl rfl (by kernel_rfl) (DJ_Cc (Con.sw 901 50031 (Con.sw 902 50032 (impl_AddSet_m x h n))) rfl rfl (SVs.imp_refl _) (fun _ => rfl) rfl rfl rfl (fun _ _ => SJ_dj ?_)) (OJ_M TT_ok rfl rfl rfl rfl rfl rfl (SJ_dj ?_))
      · refine DJ_onL TT_ok [5, 6, 7, 8, 9, 10] rfl ?_
        refine DJ_one 8 rfl (by kernel_rfl) (OJ_M TT_ok rfl rfl rfl rfl rfl rfl (SJ_dj ?_))
        refine DJ_one 9 rfl (by kernel_rfl) (OJ_M TT_ok rfl rfl rfl rfl rfl rfl (SJ_dj ?_))
        refine DJ_onL TT_ok [10] rfl ?_
        exact DJ_endK key (by repeat (first | exact trivial | refine And.intro ⟨_, rfl, SV.imp_refl _⟩ ?_)) (by repeat (first | exact trivial | refine And.intro ⟨_, rfl, Ch.imp_refl _⟩ ?_))
      · skip
        refine DJ_C 4 (Con.sw 901 50031 (Con.sw 902 50032 (impl_AddSet_m x h n))) rfl rfl rfl (SVs.imp_refl _) (fun _ => rfl) rfl rfl rfl fun _ _ => ?_
        refine DJ_onL TT_ok [5, 6, 7, 9, 10] rfl ?_
        refine DJ_one 9 rfl (by kernel_rfl) (OJ_M TT_ok rfl rfl rfl rfl rfl rfl (SJ_dj ?_))
        refine DJ_onL TT_ok [10] rfl ?_
        exact DJ_endK key (by repeat (first | exact trivial | refine And.intro ⟨_, rfl, SV.imp_refl _⟩ ?_)) (by repeat (first | exact trivial | refine And.intro ⟨_, rfl, Ch.imp_refl _⟩ ?_))
    · skip
      refine DJ_C 1 (Con.sw 901 75511 (Con.sw 902 75512 (toTx_g x h))) rfl rfl rfl (SVs.imp_refl _) (fun _ => rfl) rfl rfl rfl fun _ _ => ?_
      refine DJ_Qi 3 (toSet_q n) rfl rfl rfl (SVs.imp_refl _) rfl ?_
      refine DJ_C 4 (Con.sw 901 50031 (Con.sw 902 50032 (impl_AddSet_m x h n))) rfl rfl rfl (SVs.imp_refl _) (fun _ => rfl) rfl rfl rfl fun _ _ => ?_
      refine DJ_onL TT_ok [5, 6, 7, 9, 10] rfl ?_
      refine DJ_one 9 rfl (by kernel_rfl) (OJ_M TT_ok rfl rfl rfl rfl rfl rfl (SJ_dj ?_))
      refine DJ_onL TT_ok [10] rfl ?_
      exact DJ_endK key (by repeat (first | exact trivial | refine And.intro ⟨_, rfl, SV.imp_refl _⟩ ?_)) (by repeat (first | exact trivial | refine And.intro ⟨_, rfl, Ch.imp_refl _⟩ ?_))
  refine X_go TT_ok rfl ?_
  refine RJ_Q TT_ok (eqTx_g _ h3) rfl rfl rfl rfl rfl ?_
  refine T_cond rfl (fun e => by simp at e) (fun _ => ?_)
  refine T_auto TT_ok rfl ?_
  refine RJ_Q TT_ok (heldTx_g _ h3 1 (by decide) hR) rfl rfl rfl rfl rfl ?_
  refine T_condD rfl (fun e => by omega) (fun _ => ?_)
  refine T_auto TT_ok rfl ?_
  refine T_condN rfl (fun e => absurd rfl e) (fun _ => ?_)
  refine T_auto TT_ok rfl ?_
  exact T_ansB TT_ok [(4, none)] rfl rfl (rfl)
end Go.Proofs.Ytiegllklalplnaa
