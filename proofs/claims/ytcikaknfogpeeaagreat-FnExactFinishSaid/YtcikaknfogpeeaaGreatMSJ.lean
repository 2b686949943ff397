/-
  Part J of what the claim leans on: memory, data, walks through the program, plain laws.
-/
import Derived.Test.YtcikaknfogpeeaaGreatMSI
import Derived.ChangeArms
import Derived.MapPlaces
namespace Go.Proofs.YtcikaknfogpeeaaGreat
open Go Go.RowKit
set_option linter.unusedVariables false
set_option linter.unusedSimpArgs false
set_option maxRecDepth 4000
theorem at_backup {c : GCluster} (hok : ClusOk c) {x : GCopyAt} (h : AtIn c x) : x.backup = (x.machine != mAt c x.region.toNat 0) := by
  obtain ⟨j, h1, h2, h3⟩ := h.at'
  rw [h2, h3]
  by_cases c0 : j = 0
  · subst c0; simp
  · rw [decide_eq_true (by omega)]
    have hr := h.region
    have hp := ((hok.2.1.2 x.region.toNat (by omega)).2 j h1)
    unfold badPl at hp
    have hn : ¬ (placeM c x.region).getD j 0 ∈ (placeM c x.region).take j := of_decide_eq_false (bif_or_false.1 hp).2
    have h0 : mAt c x.region.toNat 0 ∈ (placeM c x.region).take j := by
      refine mem_iff_getD.2 ⟨0, by rw [List.length_take]; omega, ?_⟩
      rw [getD_take (by rw [List.length_take]; omega)]
    have : mAt c x.region.toNat j ≠ mAt c x.region.toNat 0 := fun e => hn (by
      have e2 : (placeM c x.region).getD j 0 = mAt c x.region.toNat j := rfl
      rw [e2, e]; exact h0)
    exact (bne_iff_ne.2 this).symm
theorem canClear_spec {m : GMachine} (h : m.cleared.length ≤ 60) (tx : Int) : (bif !decide (tx ∈ m.cleared) then ((m.cleared.length : Int) == 60) else false) = !canClear m tx := by
  unfold canClear
  by_cases c1 : (m.cleared.length : Int) < 60
  · rw [decide_eq_true c1, beq_eq_false_iff_ne.2 (by omega)]
    cases decide (tx ∈ m.cleared) <;> rfl
  · rw [decide_eq_false c1, beq_iff_eq.2 (by omega)]
    cases decide (tx ∈ m.cleared) <;> rfl
set_option maxHeartbeats 4000000 in
theorem l10Step_k (c : GCluster) (hok : ClusOk c) (i : Nat) (hi : i < c.txs.length) (hp : 2 ≤ (c.txs.getD i GTx.z).phase ∧ (c.txs.getD i GTx.z).phase ≤ 9) (hclk : c.clock ≠ 1000000) :
    Con Tryz.prog 23 [900, 901, 902, 903] [.a (.p 900 0), vI i] [(900, .row (rowC c 901 902 903)), (901, roC 1 cPlace GPlace.z c.places), (902, arrC 4 cMachine GMachine.z c.machines), (903, arrC 7 cTx GTx.z c.txs)]
      (fun _ : Unit => True) (fun _ => [vI (stepR c i).1]) fun _ => if (stepR c i).1 = 0 then [(900, .row (rowC (stepR c i).2 901 902 903)), (902, arrC 4 cMachine GMachine.z (stepR c i).2.machines), (903, arrC 7 cTx GTx.z (stepR c i).2.txs)] else [] := by
  have hmid := mid_first hok hi hp hclk
  have hx := hok.txIn hi
  have hck := hok.1.2.1
  refine con_enter Tryz.func23 rfl rfl rfl fun B0 r_ D_ w0 => ?_
  refine T_view (V_imp 903 rfl (imp_list (sz := 7) (enc := cTx) (z := GTx.z) (set_self (z := GTx.z) hi).symm) rfl) ?_
  refine T_auto TT_ok rfl ?_
  refine RJ_C TT_ok (l10Through_k c hok i hi c.machines (c.clock, c.txs.getD i GTx.z) hx hp hck (fun _ => by show c.clock < 1000000; omega)) rfl rfl (SVs.imp_refl _) (fun _ => rfl) rfl rfl rfl fun _ _ => ?_
  refine RJ_auto TT_ok rfl ?_
  have hRo := stepR_over (c := c) (i := i)
  have hRn := stepR_no (c := c) (i := i)
  have hRy := stepR_yes (c := c) (i := i)
  generalize hy : advP c (c.clock, c.txs.getD i GTx.z) = y at hmid hRo hRn hRy ⊢
  have hlen : (c.txs.set i y.2).length = c.txs.length := List.length_set
  have hget := set_at hi y.2
  rw [hget]
  refine T_cond (b := bif y.2.phase == 7 then true else y.2.phase == 9) rfl (fun e => ?_) (fun e => ?_)
  · have h79 : y.2.phase = 7 ∨ y.2.phase = 9 := by
      cases c2 : y.2.phase == 7 with
      | true => exact .inl (by simpa using c2)
      | false => rw [c2] at e; exact .inr (by simpa using e)
    rw [hRo h79, if_pos rfl]
    refine T_auto TT_ok rfl ?_
    refine T_ret TT_ok (()) [(4, none)] rfl rfl ?_ ?_ ?_
    · exact SVs.imp_refl _
    · exact ⟨⟨_, rfl, Ch.imp_refl _⟩, ⟨_, rfl, Ch.imp_refl _⟩, ⟨_, rfl, Ch.imp_refl _⟩, trivial⟩
    · trivial
  have h79 : ¬ (y.2.phase = 7 ∨ y.2.phase = 9) := by
    rintro (h | h) <;> rw [h] at e <;> cases e
  have hd := hmid.done h79
  have hle := planL_le hok hmid.tx
  obtain ⟨hAt, hw3, hmi1, hmi0, hhas⟩ := hmid.at hok h79
  have hmi : 0 ≤ (planA c y.2).machine ∧ (planA c y.2).machine < c.machines.length := ⟨hmi0, by omega⟩
  have hreg : ((planL c y.2).map GCopyAt.region).getD y.2.done.toNat 0 = (planA c y.2).region := getD_map' (za := GCopyAt.z) GCopyAt.region hd.2
  have hmch : ((planL c y.2).map GCopyAt.machine).getD y.2.done.toNat 0 = (planA c y.2).machine := getD_map' (za := GCopyAt.z) GCopyAt.machine hd.2
  have hd1 : 0 ≤ y.2.done ∧ y.2.done < (((planL c y.2).map GCopyAt.region).length : Int) := by rw [List.length_map]; omega
  have hd2 : 0 ≤ y.2.done ∧ y.2.done < (((planL c y.2).map GCopyAt.machine).length : Int) := by rw [List.length_map]; omega
  have hmr : 0 ≤ ((planL c y.2).map GCopyAt.machine).getD y.2.done.toNat 0 ∧ ((planL c y.2).map GCopyAt.machine).getD y.2.done.toNat 0 < c.machines.length := by rw [hmch]; exact hmi
  have hRn := hRn h79
  have hRy := hRy h79
  refine T_auto TT_ok rfl ?_
  refine T_drawL TT_ok [] [0, 1, 2, 3, 4, 5, 6, 7, 8, 9, 10, 11] rfl rfl fun B0 H0 => ?_
  rw [hget]
  refine DJ_C 6 (Con.sw 901 114 (Con.sw 902 115 (l10Plan_m c hok y.1 c.machines (c.txs.set i y.2) y.2 hmid.tx))) rfl rfl rfl (SVs.imp_refl _) (fun _ => rfl) rfl rfl rfl fun _ _ => ?_
  refine DJ_onL TT_ok [7, 8, 9, 10, 11] rfl ?_
  refine DJ_end (by kernel_rfl) ?_
  refine X_view (V_carve 903 (i : Int) 77 rfl rfl rfl rfl rfl rfl ⟨by omega, by omega⟩) ?_
  refine X_view (V_pe 5 rfl rfl rfl) ?_
  rw [hget]
  refine X_go TT_ok rfl ?_
  rw [hreg]
  refine T_drawL TT_ok [] [0, 1, 2, 3, 4, 5, 6, 7, 8, 9, 10, 11, 12] rfl rfl fun B0 H0 => ?_
  refine DJ_endA TT_ok rfl ?_
  rw [hmch]
  refine T_cond (b := !(mOf c (planA c y.2).machine).alive) rfl (fun e => ?_) (fun e => ?_)
  · have ha : (mOf c (planA c y.2).machine).alive = false := by simpa using e
    have hC : actC c y.2 = (6, mOf c (planA c y.2).machine, y.2) := actP_dead ha
    have hR := hRn (by rw [hC]; show (6 : Int) ≠ 0; decide)
    rw [hR, show (actC c y.2).1 = 6 from by rw [hC], if_neg (by decide)]
    refine T_auto TT_ok rfl ?_
    refine T_ret TT_ok (()) [(4, none)] rfl rfl ?_ ?_ ?_
    · exact SVs.imp_refl _
    · trivial
    · trivial
  have ha : (c.machines.getD (planA c y.2).machine.toNat GMachine.z).alive = true := by simpa using e
  have hM := hok.2.2.1 (planA c y.2).machine.toNat hmi1
  have hh := hhas ha
  have hC0 : actC c y.2 = actP y.2 (planA c y.2) ((checksL y.2).getD y.2.done.toNat GNote.z) (c.machines.getD (planA c y.2).machine.toNat GMachine.z) := rfl
  have hA2 : ∀ h0 : (actC c y.2).1 = 0, ActOk (c.machines.getD (planA c y.2).machine.toNat GMachine.z) (actC c y.2).2.1 y.2 (actC c y.2).2.2 := fun h0 => act_ok hok hmid h79 h0
  generalize hr : (planA c y.2).region = r at hreg hAt hw3 hh ⊢
  generalize hmm : c.machines.getD (planA c y.2).machine.toNat GMachine.z = m at ha hM hh hC0 hA2 ⊢
  have bl : m.log.length ≤ 200 := hM.1.2.1
  have bc : m.cleared.length ≤ 60 := hM.1.2.2
  have bk : m.copies.length ≤ 6 := hM.1.1
  have hrs := (risesB_iff.1 hM.2.1).2
  obtain ⟨s1, s2, s3⟩ := setsAt_ok hmid.tx.ok r
  have hs1 := hmid.tx.ok.1.2.2.2.2.2.1
  have hs2 := hmid.tx.ok.1.2.2.2.2.2.2
  have hsl : (setsAt r y.2.sets).length ≤ y.2.sets.length := List.length_filter_le _ _
  have hcb := (cellsOf_len hM hh).2
  have hc6 : (cellsOf m r).length = 6 := (cellsB_iff.1 hcb).1
  have hself := setCells_self hh
  have hix2 : 0 ≤ copyI m r ∧ copyI m r < m.copies.length := ⟨(any_idx (z := GCopy.z)).2 hh, by have := idxI_in (z := GCopy.z) ((any_idx (z := GCopy.z)).2 (show m.copies.any (atB r) = true from hh)); have := (any_idx (z := GCopy.z)).2 hh; show idxI (atB r) m.copies < _; omega⟩
  have hix3 : 0 ≤ idxI (atB r) m.copies ∧ idxI (atB r) m.copies < m.copies.length := hix2
  have hT1 : TxOk (incT y.2) := (hmid.tx.same (u := incT y.2) ⟨rfl, rfl, rfl, rfl⟩ (by have := hmid.phase; show 1 ≤ y.2.phase ∧ y.2.phase ≤ 9; omega) (by show 0 ≤ y.2.done + 1 ∧ y.2.done + 1 ≤ 1000; omega) (hmid.tx.ok.1.2.2.2.2.1)).ok
  have hcel : cellsOf m r = (m.copies.getD (copyI m r).toNat GCopy.z).cells := cellsOf_has hh
  refine T_view (V_carve 902 (planA c y.2).machine 60 rfl rfl rfl rfl rfl rfl hmi) ?_
  refine T_view (V_pe 9 rfl rfl rfl) ?_
  rw [show c.machines.getD (planA c y.2).machine.toNat GMachine.z = m from hmm]
  refine T_view (V_open 60 1 61 rfl rfl rfl rfl rfl rfl) ?_
  refine T_view (V_open 60 2 62 rfl rfl rfl rfl rfl rfl) ?_
  refine T_view (V_open 60 3 63 rfl rfl rfl rfl rfl rfl) ?_
  refine T_auto TT_ok rfl ?_
  refine T_drawL TT_ok [] [0, 1, 2, 3, 4, 5, 6, 7, 8, 9, 10, 11, 12] rfl rfl fun B0 H0 => ?_
  refine DJ_Qi 8 (l6At_q m (by omega) r) rfl rfl rfl (SVs.imp_refl _) rfl ?_
  refine DJ_dp ?_
  refine DP_op TT_ok 9 rfl rfl rfl rfl ?_
  refine DP_op TT_ok 10 rfl rfl rfl rfl ?_
  refine DP_view (V_carve 61 (copyI m r) 64 rfl rfl rfl rfl rfl rfl hix2) ?_
  refine DP_view (V_open 64 1 65 rfl rfl rfl rfl rfl rfl) ?_
  refine DP_view (V_pe 82 rfl rfl rfl) ?_
  refine DP_op TT_ok 11 rfl rfl rfl rfl ?_
  refine DP_op TT_ok 12 rfl rfl rfl rfl ?_
  refine DP_endA TT_ok rfl ?_
  refine RJ_C TT_ok (Con.sw 900 30 (l7SetsOf_m y.2 r (by omega))) rfl rfl (SVs.imp_refl _) (fun _ => rfl) rfl rfl rfl fun _ _ => ?_
  refine RJ_auto TT_ok rfl ?_
  rw [← hcel]
  refine T_joinA (ι := Unit) (fun _ => []) (fun _ => [(902, arrC 4 cMachine GMachine.z (c.machines.set (planA c y.2).machine.toNat (actC c y.2).2.1)), (903, arrC 7 cTx GTx.z (c.txs.set i (actC c y.2).2.2))]) (fun _ => (actC c y.2).1 = 0) [902, 903, 77, 60, 61, 62, 63, 64, 65, 30] [77, 60, 61, 62, 63, 64, 65, 30] rfl rfl ?_ ?_
  · refine T_condE rfl (fun e2 => ?_) (fun e2 => ?_)
    · have e2 : y.2.phase = 2 := e2
      have hC := hC0.trans (actP_2 ha e2)
      rw [hr] at hC
      refine T_auto TT_ok rfl ?_
      refine RJ_C TT_ok (Con.sw 901 40 (spec_Lock_m (cellsOf m r) (setsAt r y.2.sets) (by omega) hcb s1 s2 (setsB_of s1 s2 s3))) rfl rfl (SVs.imp_refl _) (fun _ => rfl) rfl rfl rfl fun _ _ => ?_
      refine RJ_auto TT_ok rfl ?_
      refine T_condX rfl (fun e => ?_) (fun e => ?_)
      · have hC : actC c y.2 = (0, m, backT y.2) := by rw [hC, e]; rfl
        refine T_auto TT_ok rfl ?_
        refine RJ_view (V_fold 64 1 65 rfl rfl rfl rfl rfl rfl rfl) ?_
        refine RJ_view (V_uncarve 61 64 rfl rfl rfl rfl rfl rfl rfl) ?_
        refine RJ_view (V_imp 61 rfl (imp_set (y := (putX m r (cellsOf m r))) (OwnI.refl _)) rfl) ?_
        refine RJ_view (V_fold 60 1 61 rfl rfl rfl rfl rfl rfl rfl) ?_
        refine RJ_view (V_fold 60 2 62 rfl rfl rfl rfl rfl rfl rfl) ?_
        refine RJ_view (V_fold 60 3 63 rfl rfl rfl rfl rfl rfl rfl) ?_
        refine RJ_view (V_uncarve 902 60 rfl rfl rfl rfl rfl rfl rfl) ?_
        refine RJ_view (V_uncarve 903 77 rfl rfl rfl rfl rfl rfl rfl) ?_
        refine RJ_view (V_imp 902 rfl (Ch.imp_trans (imp_set (y := setCells m r (cellsOf m r)) (OwnI.refl _)) (imp_list (ys := c.machines.set (planA c y.2).machine.toNat (actC c y.2).2.1) (by rw [hC, hself]))) rfl) ?_
        refine RJ_view (V_imp 903 rfl (Ch.imp_trans (imp_set2 (u := backT y.2) (OwnI.refl _)) (imp_list (ys := c.txs.set i (actC c y.2).2.2) (by rw [hC]))) rfl) ?_
        have h0 : (actC c y.2).1 = 0 := by rw [hC]
        have ha2 := hA2 h0
        have hR := hRy h0
        have hphs := hmid.phase
        have hstm := hmid.stamp
        have hclo := hmid.clock
        have hx2 : TxIn c (actC c y.2).2.2 := hmid.tx.same ha2.same (by rcases ha2.phase with q | q <;> omega) (by rcases ha2.phase with q | q <;> omega) (by rw [ha2.stamp]; omega)
        rw [hR, if_pos rfl]
        refine RJ_C TT_ok (l10Through_k c hok i hi (c.machines.set (planA c y.2).machine.toNat (actC c y.2).2.1) (y.1, (actC c y.2).2.2) hx2 (by show 2 ≤ (actC c y.2).2.2.phase ∧ (actC c y.2).2.2.phase ≤ 9; rcases ha2.phase with q | q <;> omega) (by show 0 ≤ y.1 ∧ y.1 ≤ 1000000; omega) (fun h => hmid.lock (by have h : (actC c y.2).2.2.phase = 2 := h; rcases ha2.phase with q | q <;> omega))) rfl rfl (SVs.imp_refl _) (fun _ => rfl) rfl rfl rfl fun _ _ => ?_
        refine RJ_auto TT_ok rfl ?_
        refine T_ret TT_ok (()) [(4, none)] rfl rfl ?_ ?_ ?_
        · exact SVs.imp_refl _
        · exact ⟨⟨_, rfl, Ch.imp_refl _⟩, ⟨_, rfl, Ch.imp_refl _⟩, ⟨_, rfl, Ch.imp_refl _⟩, trivial⟩
        · trivial
      rw [show lockM (cellsOf m r) (setsAt r y.2.sets) = lockL (cellsOf m r) (setsAt r y.2.sets) from by unfold lockM; rw [e]; rfl]
      refine T_auto TT_ok rfl ?_
      refine T_condE rfl (fun e5 => ?_) (fun e5 => ?_)
      · have hC : actC c y.2 = (9, m, y.2) := by rw [hC, e, decide_eq_true e5]; rfl
        have hR := hRn (by rw [hC]; show (9 : Int) ≠ 0; decide)
        rw [hR, show (actC c y.2).1 = 9 from by rw [hC], if_neg (by decide)]
        refine T_auto TT_ok rfl ?_
        refine T_ret TT_ok (()) [(4, none)] rfl rfl ?_ ?_ ?_
        · exact SVs.imp_refl _
        · trivial
        · trivial
      have hC : actC c y.2 = (0, appLog (setCells m r (lockL (cellsOf m r) (setsAt r y.2.sets))) ⟨1, y.2.id, r, setsAt r y.2.sets⟩, incT y.2) := by rw [hC, e, decide_eq_false e5]; rfl
      refine T_auto TT_ok rfl ?_
      refine RJ_view (V_fold 64 1 65 rfl rfl rfl rfl rfl rfl rfl) ?_
      refine RJ_view (V_uncarve 61 64 rfl rfl rfl rfl rfl rfl rfl) ?_
      refine RJ_view (V_imp 61 rfl (Ch.imp_trans (imp_set (y := putX m r (cellsOf m r)) (OwnI.refl _)) (imp_list (congrArg GMachine.copies hself))) rfl) ?_
      refine RJ_C TT_ok (Con.sw 905 40 (Con.sw 903 63 (Con.sw 902 62 (Con.sw 901 61 (Con.sw 900 60 (l6Replace_k m (by omega) (by omega) (by omega) r hh (lockL (cellsOf m r) (setsAt r y.2.sets)))))))) rfl rfl (SVs.imp_refl _) (fun _ => rfl) rfl rfl rfl fun _ _ => ?_
      refine RJ_auto TT_ok rfl ?_
      refine T_drawL TT_ok [62, 30] [0, 1, 2, 3, 4, 5, 6, 7, 8, 9, 10, 11, 12, 13, 14, 15, 16] rfl rfl fun B0 H0 => ?_
      refine DJ_one 12 rfl (by kernel_rfl) (OJ_bs TT_ok 140 (fun _ => cRecord ⟨1, y.2.id, r, setsAt r y.2.sets⟩) rfl rfl rfl rfl rfl rfl rfl (fun j hj => by rcases j with _ | j <;> first | rfl | omega) (mu1 := [(30, .arr 0 0 fun _ => [])]) rfl rfl rfl (SJ_dj ?_))
      refine DJ_one 13 rfl (by kernel_rfl) (OJ_appM TT_ok 62 140 66 rfl rfl rfl rfl rfl rfl rfl rfl rfl rfl rfl rfl ⟨by show (m.log.length + 1) * 48 ≤ _; omega, by unfold maxL; omega⟩ (SJ_dj ?_))
      refine DJ_onL TT_ok [14, 15, 16] rfl ?_
      refine DJ_sw2 16 rfl (by kernel_rfl) (by kernel_rfl) (OJ_M TT_ok rfl rfl rfl rfl rfl rfl (SJ_sw [] fun B0 H0 => ?_))
      refine DJ_endA TT_ok rfl ?_
      refine X_view (V_fold 60 1 61 rfl rfl rfl rfl rfl rfl rfl) ?_
      refine X_view (V_imp 66 rfl (imp_app1 (x := (⟨1, y.2.id, r, setsAt r y.2.sets⟩ : GRecord)) rfl rfl) rfl) ?_
      refine X_view (V_fold 60 2 66 rfl rfl rfl rfl rfl rfl rfl) ?_
      refine X_view (V_fold 60 3 63 rfl rfl rfl rfl rfl rfl rfl) ?_
      refine X_view (V_uncarve 902 60 rfl rfl rfl rfl rfl rfl rfl) ?_
      refine X_view (V_uncarve 903 77 rfl rfl rfl rfl rfl rfl rfl) ?_
      exact X_inv () (by rw [hC]) Nat.zero_lt_one (by repeat (first | exact trivial | refine And.intro ⟨_, rfl, SV.imp_refl _⟩ ?_)) ⟨⟨_, rfl, Ch.imp_trans (imp_set (y := appLog (setCells m r (lockL (cellsOf m r) (setsAt r y.2.sets))) ⟨1, y.2.id, r, setsAt r y.2.sets⟩) (OwnI.refl _)) (imp_list (by rw [hC]))⟩, ⟨_, rfl, Ch.imp_trans (imp_set2 (u := incT y.2) (OwnI.refl _)) (imp_list (by rw [hC]))⟩, (by repeat (first | exact trivial | refine And.intro ⟨_, rfl, Ch.imp_refl _⟩ ?_))⟩
    refine T_auto TT_ok rfl ?_
    refine T_condE rfl (fun e3 => ?_) (fun e3 => ?_)
    · have e3 : y.2.phase = 3 := e3
      have hk : y.2.done.toNat < (checksL y.2).length := by rw [← plan3 (c := c) e3]; exact hd.2
      have hk2 : 0 ≤ y.2.done ∧ y.2.done.toNat < (checksL (incT y.2)).length := ⟨hd.1, hk⟩
      have hnb := noteB_slot ((readsOk_iff.1 hmid.tx.ok.2.1).1 _ (List.mem_filter.1 (getD_mem (z := GNote.z) hk)).1)
      have hnb2 : 0 ≤ ((checksL (incT y.2)).getD y.2.done.toNat GNote.z).slot ∧ ((checksL (incT y.2)).getD y.2.done.toNat GNote.z).slot < (cellsOf m r).length := ⟨hnb.1, by rw [hc6]; exact Int.lt_of_le_of_lt hnb.2 (by decide)⟩
      have hrn : ((checksL y.2).getD y.2.done.toNat GNote.z).region = r := by rw [← hr, plan3A e3 hd.2]; rfl
      have hC := hC0.trans (actP_3 ha e3 (by rw [hr, hrn]))
      refine T_auto TT_ok rfl ?_
      refine RJ_C TT_ok (Con.sw 900 50 (l7ChecksK_m hT1)) rfl rfl (SVs.imp_refl _) (fun _ => rfl) rfl rfl rfl fun _ _ => ?_
      refine RJ_auto TT_ok rfl ?_
      have hhd : headB ((cellsOf m r).getD ((checksL (incT y.2)).getD y.2.done.toNat GNote.z).slot.toNat GCell.z).head = true := by
        have h1 := (badCell_iff.1 ((cellsB_iff.1 hcb).2 _ (getD_mem (z := GCell.z) (i := ((checksL (incT y.2)).getD y.2.done.toNat GNote.z).slot.toNat) (by omega)))).1
        exact headB_iff.2 h1
      have hV := ver4 hhd
      refine T_drawL TT_ok [] [0, 1, 2, 3, 4, 5, 6, 7, 8] rfl rfl fun B0 H0 => ?_
      refine DJ_Qi 1 (spec_Locked_q _) rfl rfl rfl (SVs.imp_refl _) rfl ?_
      refine DJ_onL TT_ok [2, 3, 5, 6, 4, 7, 8] rfl ?_
      refine DJ_Qi 4 (spec_Version_q _) rfl rfl rfl (SVs.imp_refl _) rfl ?_
      refine DJ_onL TT_ok [7, 8] rfl ?_
      refine DJ_endA TT_ok rfl ?_
      rw [hV]
      have hb : ∀ b, (bif lockedB ((cellsOf m r).getD ((checksL (incT y.2)).getD y.2.done.toNat GNote.z).slot.toNat GCell.z).head then true else ((cellsOf m r).getD ((checksL (incT y.2)).getD y.2.done.toNat GNote.z).slot.toNat GCell.z).head.tdiv 4 != ((checksL (incT y.2)).getD y.2.done.toNat GNote.z).version) = b → badN m ((checksL y.2).getD y.2.done.toNat GNote.z) = b := fun b h => by
        unfold badN
        rw [hrn]; exact h
      refine T_cond rfl (fun e => ?_) (fun e => ?_)
      · have hC : actC c y.2 = (0, m, backT y.2) := by rw [hC, hb _ e]; rfl
        refine T_auto TT_ok rfl ?_
        refine X_view (V_fold 64 1 65 rfl rfl rfl rfl rfl rfl rfl) ?_
        refine X_view (V_uncarve 61 64 rfl rfl rfl rfl rfl rfl rfl) ?_
        refine X_view (V_imp 61 rfl (imp_set (y := (putX m r (cellsOf m r))) (OwnI.refl _)) rfl) ?_
        refine X_view (V_fold 60 1 61 rfl rfl rfl rfl rfl rfl rfl) ?_
        refine X_view (V_fold 60 2 62 rfl rfl rfl rfl rfl rfl rfl) ?_
        refine X_view (V_fold 60 3 63 rfl rfl rfl rfl rfl rfl rfl) ?_
        refine X_view (V_uncarve 902 60 rfl rfl rfl rfl rfl rfl rfl) ?_
        refine X_view (V_uncarve 903 77 rfl rfl rfl rfl rfl rfl rfl) ?_
        exact X_inv () (by rw [hC]) Nat.zero_lt_one (by repeat (first | exact trivial | refine And.intro ⟨_, rfl, SV.imp_refl _⟩ ?_)) ⟨⟨_, rfl, Ch.imp_trans (imp_set (y := setCells m r (cellsOf m r)) (OwnI.refl _)) (imp_list (by rw [hC, hself]))⟩, ⟨_, rfl, Ch.imp_trans (imp_set2 (u := backT y.2) (OwnI.refl _)) (imp_list (by rw [hC]))⟩, (by repeat (first | exact trivial | refine And.intro ⟨_, rfl, Ch.imp_refl _⟩ ?_))⟩
      · have hC : actC c y.2 = (0, m, incT y.2) := by rw [hC, hb _ e]; rfl
        refine T_auto TT_ok rfl ?_
        refine X_view (V_fold 64 1 65 rfl rfl rfl rfl rfl rfl rfl) ?_
        refine X_view (V_uncarve 61 64 rfl rfl rfl rfl rfl rfl rfl) ?_
        refine X_view (V_imp 61 rfl (imp_set (y := (putX m r (cellsOf m r))) (OwnI.refl _)) rfl) ?_
        refine X_view (V_fold 60 1 61 rfl rfl rfl rfl rfl rfl rfl) ?_
        refine X_view (V_fold 60 2 62 rfl rfl rfl rfl rfl rfl rfl) ?_
        refine X_view (V_fold 60 3 63 rfl rfl rfl rfl rfl rfl rfl) ?_
        refine X_view (V_uncarve 902 60 rfl rfl rfl rfl rfl rfl rfl) ?_
        refine X_view (V_uncarve 903 77 rfl rfl rfl rfl rfl rfl rfl) ?_
        exact X_inv () (by rw [hC]) Nat.zero_lt_one (by repeat (first | exact trivial | refine And.intro ⟨_, rfl, SV.imp_refl _⟩ ?_)) ⟨⟨_, rfl, Ch.imp_trans (imp_set (y := setCells m r (cellsOf m r)) (OwnI.refl _)) (imp_list (by rw [hC, hself]))⟩, ⟨_, rfl, Ch.imp_trans (imp_set2 (u := incT y.2) (OwnI.refl _)) (imp_list (by rw [hC]))⟩, (by repeat (first | exact trivial | refine And.intro ⟨_, rfl, Ch.imp_refl _⟩ ?_))⟩
    refine T_auto TT_ok rfl ?_
    refine T_condE rfl (fun e4 => ?_) (fun e4 => ?_)
    · have e4 : y.2.phase = 4 := e4
      have hC := hC0.trans (actP_4 ha e4)
      rw [hr] at hC
      refine T_auto TT_ok rfl ?_
      refine T_condE rfl (fun e5 => ?_) (fun e5 => ?_)
      · have hC : actC c y.2 = (9, m, y.2) := by rw [hC, decide_eq_true e5]; rfl
        have hR := hRn (by rw [hC]; show (9 : Int) ≠ 0; decide)
        rw [hR, show (actC c y.2).1 = 9 from by rw [hC], if_neg (by decide)]
        refine T_auto TT_ok rfl ?_
        refine T_ret TT_ok (()) [(4, none)] rfl rfl ?_ ?_ ?_
        · exact SVs.imp_refl _
        · trivial
        · trivial
      have hC : actC c y.2 = (0, appLog m ⟨2, y.2.id, r, setsAt r y.2.sets⟩, incT y.2) := by rw [hC, decide_eq_false e5]; rfl
      refine T_auto TT_ok rfl ?_
      refine T_drawL TT_ok [62, 30] [0, 1, 2, 3, 4, 5, 6, 7, 8, 9, 10, 11, 12, 13, 14, 15, 16] rfl rfl fun B0 H0 => ?_
      refine DJ_one 12 rfl (by kernel_rfl) (OJ_bs TT_ok 140 (fun _ => cRecord ⟨2, y.2.id, r, setsAt r y.2.sets⟩) rfl rfl rfl rfl rfl rfl rfl (fun j hj => by rcases j with _ | j <;> first | rfl | omega) (mu1 := [(30, .arr 0 0 fun _ => [])]) rfl rfl rfl (SJ_dj ?_))
      refine DJ_one 13 rfl (by kernel_rfl) (OJ_appM TT_ok 62 140 66 rfl rfl rfl rfl rfl rfl rfl rfl rfl rfl rfl rfl ⟨by show (m.log.length + 1) * 48 ≤ _; omega, by unfold maxL; omega⟩ (SJ_dj ?_))
      refine DJ_onL TT_ok [14, 15, 16] rfl ?_
      refine DJ_sw2 16 rfl (by kernel_rfl) (by kernel_rfl) (OJ_M TT_ok rfl rfl rfl rfl rfl rfl (SJ_sw [] fun B0 H0 => ?_))
      refine DJ_endA TT_ok rfl ?_
      refine X_view (V_imp 66 rfl (imp_app1 (x := (⟨2, y.2.id, r, setsAt r y.2.sets⟩ : GRecord)) rfl rfl) rfl) ?_
      refine X_view (V_fold 64 1 65 rfl rfl rfl rfl rfl rfl rfl) ?_
      refine X_view (V_uncarve 61 64 rfl rfl rfl rfl rfl rfl rfl) ?_
      refine X_view (V_imp 61 rfl (imp_set (y := (putX m r (cellsOf m r))) (OwnI.refl _)) rfl) ?_
      refine X_view (V_fold 60 1 61 rfl rfl rfl rfl rfl rfl rfl) ?_
      refine X_view (V_fold 60 2 66 rfl rfl rfl rfl rfl rfl rfl) ?_
      refine X_view (V_fold 60 3 63 rfl rfl rfl rfl rfl rfl rfl) ?_
      refine X_view (V_uncarve 902 60 rfl rfl rfl rfl rfl rfl rfl) ?_
      refine X_view (V_uncarve 903 77 rfl rfl rfl rfl rfl rfl rfl) ?_
      exact X_inv () (by rw [hC]) Nat.zero_lt_one (by repeat (first | exact trivial | refine And.intro ⟨_, rfl, SV.imp_refl _⟩ ?_)) ⟨⟨_, rfl, Ch.imp_trans (imp_set (y := appLog (setCells m r (cellsOf m r)) ⟨2, y.2.id, r, setsAt r y.2.sets⟩) (OwnI.refl _)) (imp_list (by rw [hC, hself]))⟩, ⟨_, rfl, Ch.imp_trans (imp_set2 (u := incT y.2) (OwnI.refl _)) (imp_list (by rw [hC]))⟩, (by repeat (first | exact trivial | refine And.intro ⟨_, rfl, Ch.imp_refl _⟩ ?_))⟩
    refine T_auto TT_ok rfl ?_
    refine T_condE rfl (fun e5 => ?_) (fun e5 => ?_)
    · have e5 : y.2.phase = 5 := e5
      have hC := hC0.trans (actP_5 ha e5)
      rw [hr] at hC
      refine T_auto TT_ok rfl ?_
      refine RJ_C TT_ok (Con.sw 900 65 (l3Install_k (cellsOf m r) (setsAt r y.2.sets) (by omega) hcb s1)) rfl rfl (SVs.imp_refl _) (fun _ => rfl) rfl rfl rfl fun _ _ => ?_
      refine RJ_auto TT_ok rfl ?_
      refine RJ_C TT_ok (Con.sw 903 63 (Con.sw 902 62 (Con.sw 901 61 (Con.sw 900 60 (l6Turn_k m (by omega) y.2.id r))))) rfl rfl (SVs.imp_refl _) (fun _ => rfl) rfl rfl rfl fun _ _ => ?_
      refine RJ_auto TT_ok rfl ?_
      refine X_view (V_fold 64 1 65 rfl rfl rfl rfl rfl rfl rfl) ?_
      refine X_view (V_uncarve 61 64 rfl rfl rfl rfl rfl rfl rfl) ?_
      refine X_view (V_imp 61 rfl (imp_set (y := (putX m r (instL (cellsOf m r) (setsAt r y.2.sets)))) (OwnI.refl _)) rfl) ?_
      refine X_view (V_fold 60 1 61 rfl rfl rfl rfl rfl rfl rfl) ?_
      refine X_view (V_fold 60 2 62 rfl rfl rfl rfl rfl rfl rfl) ?_
      refine X_view (V_fold 60 3 63 rfl rfl rfl rfl rfl rfl rfl) ?_
      refine X_view (V_uncarve 902 60 rfl rfl rfl rfl rfl rfl rfl) ?_
      refine X_view (V_uncarve 903 77 rfl rfl rfl rfl rfl rfl rfl) ?_
      exact X_inv () (by rw [hC]) Nat.zero_lt_one (by repeat (first | exact trivial | refine And.intro ⟨_, rfl, SV.imp_refl _⟩ ?_)) ⟨⟨_, rfl, Ch.imp_trans (imp_set (y := turnR (setCells m r (instL (cellsOf m r) (setsAt r y.2.sets))) y.2.id r) (OwnI.refl _)) (imp_list (by rw [hC]))⟩, ⟨_, rfl, Ch.imp_trans (imp_set2 (u := incT y.2) (OwnI.refl _)) (imp_list (by rw [hC]))⟩, (by repeat (first | exact trivial | refine And.intro ⟨_, rfl, Ch.imp_refl _⟩ ?_))⟩
    refine T_auto TT_ok rfl ?_
    refine T_condE rfl (fun e6 => ?_) (fun e6 => ?_)
    · have e6 : y.2.phase = 6 := e6
      have hC := hC0.trans (actP_6 ha e6)
      have hbk := at_backup hok hAt
      refine T_auto TT_ok rfl ?_
      refine T_drawL TT_ok [] [0, 1, 2, 3, 4, 5, 6, 7, 8, 9, 10, 11, 12, 13, 14, 15, 16, 17] rfl rfl fun B0 H0 => ?_
      refine DJ_Qi 8 (l3Has_q m.cleared (by omega) _) rfl rfl rfl (SVs.imp_refl _) rfl ?_
      refine DJ_onL TT_ok [9, 10, 11, 12, 13, 14, 15, 16, 17] rfl ?_
      refine DJ_endA TT_ok rfl ?_
      refine T_cond (b := bif !decide (y.2.id ∈ m.cleared) then ((m.cleared.length : Int) == 60) else false) rfl (fun e => ?_) (fun e => ?_)
      · have hC : actC c y.2 = (9, m, y.2) := by rw [hC, ← canClear_spec bc, e]; rfl
        have hR := hRn (by rw [hC]; show (9 : Int) ≠ 0; decide)
        rw [hR, show (actC c y.2).1 = 9 from by rw [hC], if_neg (by decide)]
        refine T_auto TT_ok rfl ?_
        refine T_ret TT_ok (()) [(4, none)] rfl rfl ?_ ?_ ?_
        · exact SVs.imp_refl _
        · trivial
        · trivial
      have hC : actC c y.2 = (0, clrM y.2 (planA c y.2) m, incT y.2) := by rw [hC, ← canClear_spec bc, e]; rfl
      unfold clrM at hC
      rw [hr] at hC
      have hpl := place_le hok hAt.region
      have hpl0 : 0 < (c.places.getD r.toNat GPlace.z).machines.length := by
        have h0 := hpl.1
        rw [hr] at h0
        exact h0
      have hrr : 0 ≤ r ∧ r < c.places.length := by rw [← hr]; exact hAt.region
      refine T_auto TT_ok rfl ?_
      refine T_drawL TT_ok [] [0, 1, 2, 3, 4, 5, 6, 7, 8, 9, 10, 11, 12, 13, 14] rfl rfl fun B0 H0 => ?_
      refine DJ_endA TT_ok rfl ?_
      rw [hmch]
      rw [hr] at hbk
      refine T_cond rfl (fun e2 => ?_) (fun e2 => ?_)
      · have hb : (planA c y.2).backup = true := by rw [hbk]; exact e2
        have hC : actC c y.2 = (0, clearR (setCells m r (instL (cellsOf m r) (setsAt r y.2.sets))) y.2.id r true, incT y.2) := by rw [hC, hb]; rfl
        refine T_auto TT_ok rfl ?_
        refine RJ_C TT_ok (Con.sw 900 65 (l3Install_k (cellsOf m r) (setsAt r y.2.sets) (by omega) hcb s1)) rfl rfl (SVs.imp_refl _) (fun _ => rfl) rfl rfl rfl fun _ _ => ?_
        refine RJ_auto TT_ok rfl ?_
        refine RJ_C TT_ok (Con.sw 905 67 (Con.sw 904 66 (Con.sw 903 63 (Con.sw 902 62 (Con.sw 901 61 (Con.sw 900 60 (l6Clear_k m (by omega) (by omega) hrs y.2.id r true))))))) rfl rfl (SVs.imp_refl _) (fun _ => rfl) rfl rfl rfl fun _ _ => ?_
        refine RJ_auto TT_ok rfl ?_
        refine X_view (V_fold 64 1 65 rfl rfl rfl rfl rfl rfl rfl) ?_
        refine X_view (V_uncarve 61 64 rfl rfl rfl rfl rfl rfl rfl) ?_
        refine X_view (V_imp 61 rfl (imp_set (y := (putX m r (instL (cellsOf m r) (setsAt r y.2.sets)))) (OwnI.refl _)) rfl) ?_
        refine X_view (V_fold 60 1 61 rfl rfl rfl rfl rfl rfl rfl) ?_
        refine X_view (V_fold 60 2 66 rfl rfl rfl rfl rfl rfl rfl) ?_
        refine X_view (V_fold 60 3 67 rfl rfl rfl rfl rfl rfl rfl) ?_
        refine X_view (V_uncarve 902 60 rfl rfl rfl rfl rfl rfl rfl) ?_
        refine X_view (V_uncarve 903 77 rfl rfl rfl rfl rfl rfl rfl) ?_
        exact X_inv () (by rw [hC]) Nat.zero_lt_one (by repeat (first | exact trivial | refine And.intro ⟨_, rfl, SV.imp_refl _⟩ ?_)) ⟨⟨_, rfl, Ch.imp_trans (imp_set (y := clearR (setCells m r (instL (cellsOf m r) (setsAt r y.2.sets))) y.2.id r true) (OwnI.refl _)) (imp_list (by rw [hC]))⟩, ⟨_, rfl, Ch.imp_trans (imp_set2 (u := incT y.2) (OwnI.refl _)) (imp_list (by rw [hC]))⟩, (by repeat (first | exact trivial | refine And.intro ⟨_, rfl, Ch.imp_refl _⟩ ?_))⟩
      · have hb : (planA c y.2).backup = false := by rw [hbk]; exact e2
        have hC : actC c y.2 = (0, clearR m y.2.id r true, incT y.2) := by rw [hC, hb]; rfl
        refine T_auto TT_ok rfl ?_
        refine RJ_C TT_ok (Con.sw 905 67 (Con.sw 904 66 (Con.sw 903 63 (Con.sw 902 62 (Con.sw 901 61 (Con.sw 900 60 (l6Clear_k m (by omega) (by omega) hrs y.2.id r true))))))) rfl rfl (SVs.imp_refl _) (fun _ => rfl) rfl rfl rfl fun _ _ => ?_
        refine RJ_auto TT_ok rfl ?_
        refine X_view (V_fold 64 1 65 rfl rfl rfl rfl rfl rfl rfl) ?_
        refine X_view (V_uncarve 61 64 rfl rfl rfl rfl rfl rfl rfl) ?_
        refine X_view (V_imp 61 rfl (imp_set (y := (putX m r (cellsOf m r))) (OwnI.refl _)) rfl) ?_
        refine X_view (V_fold 60 1 61 rfl rfl rfl rfl rfl rfl rfl) ?_
        refine X_view (V_fold 60 2 66 rfl rfl rfl rfl rfl rfl rfl) ?_
        refine X_view (V_fold 60 3 67 rfl rfl rfl rfl rfl rfl rfl) ?_
        refine X_view (V_uncarve 902 60 rfl rfl rfl rfl rfl rfl rfl) ?_
        refine X_view (V_uncarve 903 77 rfl rfl rfl rfl rfl rfl rfl) ?_
        exact X_inv () (by rw [hC]) Nat.zero_lt_one (by repeat (first | exact trivial | refine And.intro ⟨_, rfl, SV.imp_refl _⟩ ?_)) ⟨⟨_, rfl, Ch.imp_trans (imp_set (y := clearR (setCells m r (cellsOf m r)) y.2.id r true) (OwnI.refl _)) (imp_list (by rw [hC, hself]))⟩, ⟨_, rfl, Ch.imp_trans (imp_set2 (u := incT y.2) (OwnI.refl _)) (imp_list (by rw [hC]))⟩, (by repeat (first | exact trivial | refine And.intro ⟨_, rfl, Ch.imp_refl _⟩ ?_))⟩
    have e8 : y.2.phase = 8 := by
      have hph := hmid.phase
      have e2 : y.2.phase ≠ 2 := e2
      have e3 : y.2.phase ≠ 3 := e3
      have e4 : y.2.phase ≠ 4 := e4
      have e5 : y.2.phase ≠ 5 := e5
      have e6 : y.2.phase ≠ 6 := e6
      omega
    have hC := hC0.trans (actP_8 ha e8)
    rw [hr] at hC
    refine T_auto TT_ok rfl ?_
    refine T_condE rfl (fun _ => ?_) (fun e => absurd e8 e)
    refine T_auto TT_ok rfl ?_
    refine T_drawL TT_ok [] [0, 1, 2, 3, 4, 5, 6, 7, 8, 9] rfl rfl fun B0 H0 => ?_
    refine DJ_C 8 (Con.sw 903 63 (Con.sw 902 62 (Con.sw 901 61 (l6Logged_k m.alive m.log (by omega) y.2.id r 1)))) rfl rfl rfl (SVs.imp_refl _) (fun _ => rfl) rfl rfl rfl fun _ _ => ?_
    refine DJ_onL TT_ok [9] rfl ?_
    refine DJ_endA TT_ok rfl ?_
    refine T_condD rfl (fun e => ?_) (fun e => ?_)
    · have hC : actC c y.2 = (0, clearR (setCells m r (unlkL (cellsOf m r) (setsAt r y.2.sets))) y.2.id r false, incT y.2) := by rw [hC, if_pos (show 0 ≤ logI m y.2.id r 1 from e)]
      refine T_auto TT_ok rfl ?_
      refine RJ_C TT_ok (Con.sw 900 65 (l3Unlock_k (cellsOf m r) (setsAt r y.2.sets) (by omega) hcb s1)) rfl rfl (SVs.imp_refl _) (fun _ => rfl) rfl rfl rfl fun _ _ => ?_
      refine RJ_auto TT_ok rfl ?_
      refine RJ_C TT_ok (Con.sw 905 67 (Con.sw 904 66 (Con.sw 903 63 (Con.sw 902 62 (Con.sw 901 61 (Con.sw 900 60 (l6Clear_k m (by omega) (by omega) hrs y.2.id r false))))))) rfl rfl (SVs.imp_refl _) (fun _ => rfl) rfl rfl rfl fun _ _ => ?_
      refine RJ_auto TT_ok rfl ?_
      refine X_view (V_fold 64 1 65 rfl rfl rfl rfl rfl rfl rfl) ?_
      refine X_view (V_uncarve 61 64 rfl rfl rfl rfl rfl rfl rfl) ?_
      refine X_view (V_imp 61 rfl (imp_set (y := (putX m r (unlkL (cellsOf m r) (setsAt r y.2.sets)))) (OwnI.refl _)) rfl) ?_
      refine X_view (V_fold 60 1 61 rfl rfl rfl rfl rfl rfl rfl) ?_
      refine X_view (V_fold 60 2 66 rfl rfl rfl rfl rfl rfl rfl) ?_
      refine X_view (V_fold 60 3 67 rfl rfl rfl rfl rfl rfl rfl) ?_
      refine X_view (V_uncarve 902 60 rfl rfl rfl rfl rfl rfl rfl) ?_
      refine X_view (V_uncarve 903 77 rfl rfl rfl rfl rfl rfl rfl) ?_
      exact X_inv () (by rw [hC]) Nat.zero_lt_one (by repeat (first | exact trivial | refine And.intro ⟨_, rfl, SV.imp_refl _⟩ ?_)) ⟨⟨_, rfl, Ch.imp_trans (imp_set (y := clearR (setCells m r (unlkL (cellsOf m r) (setsAt r y.2.sets))) y.2.id r false) (OwnI.refl _)) (imp_list (by rw [hC]))⟩, ⟨_, rfl, Ch.imp_trans (imp_set2 (u := incT y.2) (OwnI.refl _)) (imp_list (by rw [hC]))⟩, (by repeat (first | exact trivial | refine And.intro ⟨_, rfl, Ch.imp_refl _⟩ ?_))⟩
    · have hC : actC c y.2 = (0, m, incT y.2) := by rw [hC, if_neg (show ¬ 0 ≤ logI m y.2.id r 1 from e)]
      refine T_auto TT_ok rfl ?_
      refine X_view (V_fold 64 1 65 rfl rfl rfl rfl rfl rfl rfl) ?_
      refine X_view (V_uncarve 61 64 rfl rfl rfl rfl rfl rfl rfl) ?_
      refine X_view (V_imp 61 rfl (imp_set (y := (putX m r (cellsOf m r))) (OwnI.refl _)) rfl) ?_
      refine X_view (V_fold 60 1 61 rfl rfl rfl rfl rfl rfl rfl) ?_
      refine X_view (V_fold 60 2 62 rfl rfl rfl rfl rfl rfl rfl) ?_
      refine X_view (V_fold 60 3 63 rfl rfl rfl rfl rfl rfl rfl) ?_
      refine X_view (V_uncarve 902 60 rfl rfl rfl rfl rfl rfl rfl) ?_
      refine X_view (V_uncarve 903 77 rfl rfl rfl rfl rfl rfl rfl) ?_
      exact X_inv () (by rw [hC]) Nat.zero_lt_one (by repeat (first | exact trivial | refine And.intro ⟨_, rfl, SV.imp_refl _⟩ ?_)) ⟨⟨_, rfl, Ch.imp_trans (imp_set (y := setCells m r (cellsOf m r)) (OwnI.refl _)) (imp_list (by rw [hC, hself]))⟩, ⟨_, rfl, Ch.imp_trans (imp_set2 (u := incT y.2) (OwnI.refl _)) (imp_list (by rw [hC]))⟩, (by repeat (first | exact trivial | refine And.intro ⟨_, rfl, Ch.imp_refl _⟩ ?_))⟩
  rintro ⟨⟩ h0
  refine X_go TT_ok rfl ?_
  have ha2 := hA2 h0
  have hR := hRy h0
  have hphs := hmid.phase
  have hstm := hmid.stamp
  have hclo := hmid.clock
  have hx2 : TxIn c (actC c y.2).2.2 := hmid.tx.same ha2.same (by rcases ha2.phase with q | q <;> omega) (by rcases ha2.phase with q | q <;> omega) (by rw [ha2.stamp]; omega)
  rw [hR, if_pos rfl]
  refine RJ_C TT_ok (l10Through_k c hok i hi (c.machines.set (planA c y.2).machine.toNat (actC c y.2).2.1) (y.1, (actC c y.2).2.2) hx2 (by show 2 ≤ (actC c y.2).2.2.phase ∧ (actC c y.2).2.2.phase ≤ 9; rcases ha2.phase with q | q <;> omega) (by show 0 ≤ y.1 ∧ y.1 ≤ 1000000; omega) (fun h => hmid.lock (by have h : (actC c y.2).2.2.phase = 2 := h; rcases ha2.phase with q | q <;> omega))) rfl rfl (SVs.imp_refl _) (fun _ => rfl) rfl rfl rfl fun _ _ => ?_
  refine RJ_auto TT_ok rfl ?_
  refine T_ret TT_ok (()) [(4, none)] rfl rfl ?_ ?_ ?_
  · exact SVs.imp_refl _
  · exact ⟨⟨_, rfl, Ch.imp_refl _⟩, ⟨_, rfl, Ch.imp_refl _⟩, ⟨_, rfl, Ch.imp_refl _⟩, trivial⟩
  · trivial
end Go.Proofs.YtcikaknfogpeeaaGreat
namespace Go.Proofs.YtcikaknfogpeeaaGreat
open Go Go.RowKit
set_option linter.unusedVariables false
set_option linter.unusedSimpArgs false
set_option maxRecDepth 4000
open Classical in
noncomputable def moveI (c : GCluster) (id : Int) : Int × Int := if ClusOk c then (if moveC c id = 0 then (findI c id, 0) else (-1, moveC c id)) else (-1, 1)
theorem l10Moves_c (c : GCluster) (hb : D.bds bigN (cCluster c)) (id : Int) : Con Tryz.prog 20 [] [vR (cCluster c), vI id] [] (fun _ : Unit => True) (fun _ => [vI (moveI c id).1, vI (moveI c id).2]) fun _ => [] := by
  have b3 : c.txs.length ≤ 1048576 := hb.2.2.2.2.1.1
  refine con_enter Tryz.func20 rfl rfl rfl fun B0 r_ D_ w0 => ?_
  refine T_auto1 TT_ok rfl ?_
  refine T_freeze 2 rfl rfl rfl rfl (fun _ => rfl) (fun _ => rfl) fun r_ => ?_
  refine T_auto TT_ok rfl ?_
  refine RJ_Q TT_ok (spec_ClusterOk_q c hb) rfl rfl rfl rfl rfl ?_
  refine T_condX rfl (fun e => ?_) (fun e => ?_)
  · rw [show moveI c id = (-1, 1) from if_neg (dec_not.1 e)]
    refine T_auto TT_ok rfl ?_
    refine T_ret TT_ok (()) [(4, none), (5, none)] rfl rfl ?_ ?_ ?_
    · exact SVs.imp_refl _
    · trivial
    · trivial
  have hok := dec_iff.1 e
  have hR : moveI c id = if moveC c id = 0 then (findI c id, 0) else (-1, moveC c id) := if_pos hok
  refine T_auto TT_ok rfl ?_
  refine RJ_Q TT_ok (l8Find_q c b3 id) rfl rfl rfl rfl rfl ?_
  refine T_condD rfl (fun e1 => ?_) (fun e1 => ?_)
  · have h : moveC c id = 2 := by unfold moveC; rw [decide_eq_true e1]; rfl
    rw [show moveI c id = (-1, moveC c id) from by rw [hR, if_neg (by rw [h]; decide)], h]
    refine T_auto TT_ok rfl ?_
    refine T_ret TT_ok (()) [(4, none), (5, none)] rfl rfl ?_ ?_ ?_
    · exact SVs.imp_refl _
    · trivial
    · trivial
  have hin := findI_in (c := c) (id := id) (by omega)
  have hlt := findI_lt (c := c) (id := id)
  have hh := hok.home hin.1
  refine T_auto TT_ok rfl ?_
  refine T_drawL TT_ok [] [0, 1, 2, 3, 4, 5, 6, 7, 8, 9, 10, 11, 12] rfl rfl fun B0 H0 => ?_
  refine DJ_endA TT_ok rfl ?_
  refine T_cond (b := !homeUp c id) rfl (fun e2 => ?_) (fun e2 => ?_)
  · have h : moveC c id = 3 := by unfold moveC; rw [decide_eq_false e1, e2]; rfl
    rw [show moveI c id = (-1, moveC c id) from by rw [hR, if_neg (by rw [h]; decide)], h]
    refine T_auto TT_ok rfl ?_
    refine T_ret TT_ok (()) [(4, none), (5, none)] rfl rfl ?_ ?_ ?_
    · exact SVs.imp_refl _
    · trivial
    · trivial
  refine T_auto TT_ok rfl ?_
  have hm : moveC c id = bif (bif (bif (txAt c id).phase == 1 then true else (txAt c id).phase == 7) then true else (txAt c id).phase == 9) then 4 else 0 := by
    unfold moveC
    rw [decide_eq_false e1, e2]
    cases (txAt c id).phase == 1 <;> cases (txAt c id).phase == 7 <;> rfl
  refine T_cond (b := bif (bif (txAt c id).phase == 1 then true else (txAt c id).phase == 7) then true else (txAt c id).phase == 9) rfl (fun e3 => ?_) (fun e3 => ?_)
  · have h : moveC c id = 4 := by rw [hm, e3]; rfl
    rw [show moveI c id = (-1, moveC c id) from by rw [hR, if_neg (by rw [h]; decide)], h]
    refine T_auto TT_ok rfl ?_
    refine T_ret TT_ok (()) [(4, none), (5, none)] rfl rfl ?_ ?_ ?_
    · exact SVs.imp_refl _
    · trivial
    · trivial
  have h : moveC c id = 0 := by rw [hm, e3]; rfl
  rw [show moveI c id = (findI c id, 0) from by rw [hR, if_pos h]]
  refine T_auto TT_ok rfl ?_
  refine T_ret TT_ok (()) [(4, none), (5, none)] rfl rfl ?_ ?_ ?_
  · exact SVs.imp_refl _
  · trivial
  · trivial
theorem moveC_ne1 (c : GCluster) (id : Int) : moveC c id ≠ 1 := by
  unfold moveC
  cases decide (findI c id < 0) <;> cases homeUp c id <;> cases (bif (txAt c id).phase == 1 then true else bif (txAt c id).phase == 7 then true else (txAt c id).phase == 9) <;> decide
theorem actP_ne1 (t : GTx) (x : GCopyAt) (n : GNote) (m : GMachine) : (actP t x n m).1 ≠ 1 := by
  unfold actP
  cases m.alive with
  | false => simp
  | true =>
    simp only [Bool.not_true, cond_false]
    split
    · cases lockB (cellsOf m x.region) (setsAt x.region t.sets) <;> cases decide ((m.log.length : Int) = 200) <;> simp
    · split
      · cases (bif lockedB ((cellsOf m x.region).getD n.slot.toNat GCell.z).head then true else ((cellsOf m x.region).getD n.slot.toNat GCell.z).head.tdiv 4 != n.version) <;> simp
      · split
        · cases decide ((m.log.length : Int) = 200) <;> simp
        · split
          · simp
          · split
            · cases canClear m t.id <;> simp
            · split <;> simp
theorem stepR_ne1 (c : GCluster) (i : Nat) : (stepR c i).1 ≠ 1 := by
  unfold stepR
  dsimp only
  split
  · simp
  · split
    · simp
    · exact actP_ne1 _ _ _ _
theorem spec_Step_m (c : GCluster) (hb : D.bds bigN (cCluster c)) (id : Int) : MkCI Tryz.prog 7 [vR (cCluster c), vI id] (stepM c id).1 (stepM c id).2 := by
  refine con_enter Tryz.func7 rfl rfl rfl fun B0 r_ D_ w0 => ?_
  refine T_auto1 TT_ok rfl ?_
  refine T_freeze 2 rfl rfl rfl rfl (fun _ => rfl) (fun _ => rfl) fun r_ => ?_
  refine T_auto TT_ok rfl ?_
  refine RJ_C TT_ok (l10Moves_c c hb id) rfl rfl (SVs.imp_refl _) (fun _ => rfl) rfl rfl rfl fun _ _ => ?_
  refine RJ_auto TT_ok rfl ?_
  by_cases hok : ClusOk c
  · by_cases hm : moveC c id = 0
    · rw [show moveI c id = (findI c id, 0) from by unfold moveI; rw [if_pos hok, if_pos hm]]
      obtain ⟨hge, _⟩ := move_facts hm
      have hi := (findI_in hge).1
      have hpp := move_phase hok hm
      refine T_cond rfl (fun e => by cases e) (fun _ => ?_)
      refine T_auto TT_ok rfl ?_
      refine T_condE rfl (fun e2 => ?_) (fun e2 => ?_)
      · rw [show stepM c id = (c, 9) from by unfold stepM; rw [if_pos hok, if_neg (by omega), if_pos e2]]
        refine T_auto TT_ok rfl ?_
        refine RJ_C TT_ok (l9No_m c hb 9 (by decide)) rfl rfl (SVs.imp_refl _) (fun _ => rfl) rfl rfl rfl fun _ _ => ?_
        refine RJ_auto TT_ok rfl ?_
        refine T_ret TT_ok (()) [(4, some 32), (5, none)] rfl rfl ?_ ?_ ?_
        · exact SVs.imp_refl _
        · exact ⟨⟨_, rfl, Ch.imp_refl _⟩, ⟨_, rfl, Ch.imp_refl _⟩, ⟨_, rfl, Ch.imp_refl _⟩, trivial⟩
        · trivial
      have hS := stepM_zero' hok hm e2
      have hpl := stepM_places hok id
      obtain ⟨n, hn⟩ := Int.eq_ofNat_of_zero_le hge
      have hnn : (findI c id).toNat = n := by rw [hn]; rfl
      rw [hnn] at hS hi
      have hpp : 2 ≤ (c.txs.getD n GTx.z).phase ∧ (c.txs.getD n GTx.z).phase ≤ 9 := by rw [← hnn]; exact hpp
      have hst := l10Step_k c hok n hi hpp e2
      refine T_auto TT_ok rfl ?_
      refine RJ_C TT_ok (l8Copy_m c hb) rfl rfl (SVs.imp_refl _) (fun _ => rfl) rfl rfl rfl fun _ _ => ?_
      refine RJ_auto TT_ok rfl ?_
      rw [hn]
      by_cases h0 : (stepR c n).1 = 0
      · rw [if_pos h0, h0] at hst
        rw [if_pos h0] at hS
        rw [hS] at hpl
        rw [hS]
        refine RJ_C TT_ok (Con.sw 900 8 hst) rfl rfl (SVs.imp_refl _) (fun _ => rfl) rfl rfl rfl (fun _ _ => ?_) (hin := by repeat (first | exact trivial | refine And.intro ⟨_, rfl, ro_arr⟩ ?_ | refine And.intro ⟨_, rfl, ro_ro⟩ ?_ | refine And.intro ⟨_, rfl, ro_row⟩ ?_ | refine And.intro ⟨_, rfl, ro_rrow⟩ ?_ | refine And.intro ⟨_, rfl, Ch.imp_refl _⟩ ?_))
        refine RJ_auto TT_ok rfl ?_
        refine T_cond rfl (fun e => by cases e) (fun _ => ?_)
        refine T_auto TT_ok rfl ?_
        refine T_ret TT_ok (()) [(4, some 32), (5, none)] rfl rfl ?_ ?_ ?_
        · exact SVs.imp_refl _
        · exact ⟨⟨_, rfl, imp_list hpl.symm⟩, ⟨_, rfl, Ch.imp_refl _⟩, ⟨_, rfl, Ch.imp_refl _⟩, trivial⟩
        · trivial
      · rw [if_neg h0] at hst hS
        rw [hS]
        refine RJ_C TT_ok (Con.sw 900 8 hst) rfl rfl (SVs.imp_refl _) (fun _ => rfl) rfl rfl rfl (fun _ _ => ?_) (hin := by repeat (first | exact trivial | refine And.intro ⟨_, rfl, ro_arr⟩ ?_ | refine And.intro ⟨_, rfl, ro_ro⟩ ?_ | refine And.intro ⟨_, rfl, ro_row⟩ ?_ | refine And.intro ⟨_, rfl, ro_rrow⟩ ?_ | refine And.intro ⟨_, rfl, Ch.imp_refl _⟩ ?_))
        refine RJ_auto TT_ok rfl ?_
        refine T_condN rfl (fun _ => ?_) (fun e => absurd e h0)
        refine T_auto TT_ok rfl ?_
        refine RJ_C TT_ok (Con.sw 901 911 (Con.sw 902 912 (Con.sw 903 913 (l9No_m c hb (stepR c n).1 (stepR_ne1 c n))))) rfl rfl (SVs.imp_refl _) (fun _ => rfl) rfl rfl rfl fun _ _ => ?_
        refine RJ_auto TT_ok rfl ?_
        refine T_view (V_sw 911 901) ?_
        refine T_view (V_sw 912 902) ?_
        refine T_view (V_sw 913 903) ?_
        refine T_ret TT_ok (()) [(4, some 32), (5, none)] rfl rfl ?_ ?_ ?_
        · exact SVs.imp_refl _
        · exact ⟨⟨_, rfl, Ch.imp_refl _⟩, ⟨_, rfl, Ch.imp_refl _⟩, ⟨_, rfl, Ch.imp_refl _⟩, trivial⟩
        · trivial
    · rw [show stepM c id = (c, moveC c id) from by unfold stepM; rw [if_pos hok, if_pos hm]]
      rw [show moveI c id = (-1, moveC c id) from by unfold moveI; rw [if_pos hok, if_neg hm]]
      refine T_condN rfl (fun _ => ?_) (fun e => absurd e hm)
      refine T_auto TT_ok rfl ?_
      refine RJ_C TT_ok (l9No_m c hb (moveC c id) (moveC_ne1 c id)) rfl rfl (SVs.imp_refl _) (fun _ => rfl) rfl rfl rfl fun _ _ => ?_
      refine RJ_auto TT_ok rfl ?_
      refine T_ret TT_ok (()) [(4, some 32), (5, none)] rfl rfl ?_ ?_ ?_
      · exact SVs.imp_refl _
      · exact ⟨⟨_, rfl, Ch.imp_refl _⟩, ⟨_, rfl, Ch.imp_refl _⟩, ⟨_, rfl, Ch.imp_refl _⟩, trivial⟩
      · trivial
  · rw [show stepM c id = (GCluster.z, 1) from by unfold stepM; rw [if_neg hok]]
    rw [show moveI c id = (-1, 1) from if_neg hok]
    refine T_cond rfl (fun _ => ?_) (fun e => by cases e)
    refine T_auto TT_ok rfl ?_
    refine RJ_C TT_ok (l9No1_m c) rfl rfl (SVs.imp_refl _) (fun _ => rfl) rfl rfl rfl fun _ _ => ?_
    refine RJ_auto TT_ok rfl ?_
    refine T_ret TT_ok (()) [(4, some 32), (5, none)] rfl rfl ?_ ?_ ?_
    · exact SVs.imp_refl _
    · exact ⟨⟨_, rfl, Ch.imp_refl _⟩, ⟨_, rfl, Ch.imp_refl _⟩, ⟨_, rfl, Ch.imp_refl _⟩, trivial⟩
    · trivial
set_option maxHeartbeats 1000000 in
theorem spec_Finish_m (c : GCluster) (hb : D.bds bigN (cCluster c)) (id : Int) : MkCI Tryz.prog 13 [vR (cCluster c), vI id] (finishM c id).1 (finishM c id).2 := by
  refine con_enter Tryz.func13 rfl rfl rfl fun B0 r_ D_ w0 => ?_
  refine T_auto1 TT_ok rfl ?_
  refine T_freeze 2 rfl rfl rfl rfl (fun _ => rfl) (fun _ => rfl) fun r_ => ?_
  refine T_auto TT_ok rfl ?_
  refine RJ_C TT_ok (l10Moves_c c hb id) rfl rfl (SVs.imp_refl _) (fun _ => rfl) rfl rfl rfl fun _ _ => ?_
  refine RJ_auto TT_ok rfl ?_
  by_cases hok : ClusOk c
  · by_cases hm : moveC c id = 0
    · rw [show moveI c id = (findI c id, 0) from by unfold moveI; rw [if_pos hok, if_pos hm]]
      obtain ⟨hge, _⟩ := move_facts hm
      have hF : finishM c id = finN id 200 c := by unfold finishM; rw [if_pos hok]
      rw [hF]
      refine T_cond rfl (fun e => by cases e) (fun _ => ?_)
      refine T_auto TT_ok rfl ?_
      refine RJ_C TT_ok (l8Copy_m c hb) rfl rfl (SVs.imp_refl _) (fun _ => rfl) rfl rfl rfl fun _ _ => ?_
      refine RJ_auto TT_ok rfl ?_
      refine T_loopA (ι := Nat × GCluster) (fun z => [(9, vI z.1)]) (fun z => [(8, .row (rowC z.2 901 902 903)), (901, arrC 1 cPlace GPlace.z z.2.places), (902, arrC 4 cMachine GMachine.z z.2.machines), (903, arrC 7 cTx GTx.z z.2.txs)])
        (fun z => z.1 ≤ 200 ∧ ClusOk z.2 ∧ 0 ≤ findI z.2 id ∧ finN id 200 c = finN id (200 - z.1) z.2) (fun z => 200 - z.1) (0, c) [8, 901, 902, 903] [901, 902, 903] rfl rfl ⟨Nat.zero_le _, hok, hge, rfl⟩ (by repeat (first | exact trivial | refine And.intro ⟨_, rfl, SV.imp_refl _⟩ ?_)) (by repeat (first | exact trivial | refine And.intro ⟨_, rfl, Ch.imp_refl _⟩ ?_)) ?_
      rintro ⟨i, d⟩ ⟨h1, h2, h3, h4⟩
      dsimp only at h1 h2 h3 h4 ⊢
      refine T_auto TT_ok rfl ?_
      refine T_condD rfl (fun e => ?_) (fun e => ?_)
      · have hi : i < 200 := by omega
        rw [over_find (d := d) i, if_pos hi] at h4
        have hok2 := stepM_ok h2 id
        have b3 : (stepM d id).1.txs.length ≤ 1048576 := by have := hok2.1.2.2.2; omega
        have hf2 : findI (stepM d id).1 id = findI d id := stepM_find h2 id id
        have hlt := findI_lt (c := (stepM d id).1) (id := id)
        have hge2 : 0 ≤ findI (stepM d id).1 id := by rw [hf2]; exact h3
        refine T_auto TT_ok rfl ?_
        refine RJ_C TT_ok (Con.sw 901 911 (Con.sw 902 912 (Con.sw 903 913 (spec_Step_m d (clusOk_bd h2) id)))) rfl rfl (SVs.imp_refl _) (fun _ => rfl) rfl rfl rfl fun _ _ => ?_
        refine RJ_auto TT_ok rfl ?_
        by_cases h0 : (stepM d id).2 = 0
        · rw [if_pos h0] at h4
          rw [h0]
          refine T_cond rfl (fun e => by cases e) (fun _ => ?_)
          refine T_auto TT_ok rfl ?_
          refine T_drawL TT_ok [] [0, 1, 2, 3, 4, 5, 6, 7, 8] rfl rfl fun B0 H0 => ?_
          refine DJ_Qi 4 (l8Find_q (stepM d id).1 b3 id) rfl rfl rfl (SVs.imp_refl _) rfl ?_
          refine DJ_onL TT_ok [5, 6, 7, 8] rfl ?_
          refine DJ_name 49 4 951 rfl rfl rfl rfl rfl rfl ?_
          refine DJ_name 49 5 952 rfl rfl rfl rfl rfl rfl ?_
          refine DJ_one 7 rfl (by kernel_rfl) (OJ_M TT_ok rfl rfl rfl rfl rfl rfl (SJ_dj ?_))
          refine DJ_one 8 rfl (by kernel_rfl) (OJ_M TT_ok rfl rfl rfl rfl rfl rfl (SJ_dj ?_))
          refine DJ_endA TT_ok rfl ?_
          refine T_cond (b := overB (txAt (stepM d id).1 id)) rfl (fun e2 => ?_) (fun e2 => ?_)
          · rw [if_pos e2] at h4
            rw [h4]
            refine T_auto TT_ok rfl ?_
            refine T_view (V_sw 911 901) ?_
            refine T_view (V_sw 912 902) ?_
            refine T_view (V_sw 913 903) ?_
            refine T_ret TT_ok (()) [(4, some 32), (5, none)] rfl rfl ?_ ?_ ?_
            · exact SVs.imp_refl _
            · exact ⟨⟨_, rfl, Ch.imp_refl _⟩, ⟨_, rfl, Ch.imp_refl _⟩, ⟨_, rfl, Ch.imp_refl _⟩, trivial⟩
            · trivial
          · rw [if_neg (by rw [e2]; simp)] at h4
            refine T_auto TT_ok rfl ?_
            refine X_view (V_sw 911 901) ?_
            refine X_view (V_sw 912 902) ?_
            refine X_view (V_sw 913 903) ?_
            exact X_inv (i + 1, (stepM d id).1) ⟨hi, hok2, hge2, h4⟩ (by show 200 - (i + 1) < 200 - i; omega) (by repeat (first | exact trivial | refine And.intro ⟨_, rfl, SV.imp_refl _⟩ ?_)) (by repeat (first | exact trivial | refine And.intro ⟨_, rfl, Ch.imp_refl _⟩ ?_))
        · rw [if_neg h0] at h4
          rw [h4]
          refine T_condN rfl (fun _ => ?_) (fun e => absurd e h0)
          refine T_auto TT_ok rfl ?_
          refine T_ret TT_ok (()) [(4, some 32), (5, none)] rfl rfl ?_ ?_ ?_
          · exact SVs.imp_refl _
          · exact ⟨⟨_, rfl, Ch.imp_refl _⟩, ⟨_, rfl, Ch.imp_refl _⟩, ⟨_, rfl, Ch.imp_refl _⟩, trivial⟩
          · trivial
      · have hi : i = 200 := by omega
        subst hi
        rw [h4, show finN id (200 - 200) d = (d, 0) from rfl]
        refine T_auto TT_ok rfl ?_
        refine T_ret TT_ok (()) [(4, some 32), (5, none)] rfl rfl ?_ ?_ ?_
        · exact SVs.imp_refl _
        · exact ⟨⟨_, rfl, Ch.imp_refl _⟩, ⟨_, rfl, Ch.imp_refl _⟩, ⟨_, rfl, Ch.imp_refl _⟩, trivial⟩
        · trivial
    · rw [finish_move hok hm]
      rw [show moveI c id = (-1, moveC c id) from by unfold moveI; rw [if_pos hok, if_neg hm]]
      refine T_condN rfl (fun _ => ?_) (fun e => absurd e hm)
      refine T_auto TT_ok rfl ?_
      refine RJ_C TT_ok (l9No_m c hb (moveC c id) (moveC_ne1 c id)) rfl rfl (SVs.imp_refl _) (fun _ => rfl) rfl rfl rfl fun _ _ => ?_
      refine RJ_auto TT_ok rfl ?_
      refine T_ret TT_ok (()) [(4, some 32), (5, none)] rfl rfl ?_ ?_ ?_
      · exact SVs.imp_refl _
      · exact ⟨⟨_, rfl, Ch.imp_refl _⟩, ⟨_, rfl, Ch.imp_refl _⟩, ⟨_, rfl, Ch.imp_refl _⟩, trivial⟩
      · trivial
  · rw [show finishM c id = (GCluster.z, 1) from by unfold finishM; rw [if_neg hok]]
    rw [show moveI c id = (-1, 1) from if_neg hok]
    refine T_cond rfl (fun _ => ?_) (fun e => by cases e)
    refine T_auto TT_ok rfl ?_
    refine RJ_C TT_ok (l9No1_m c) rfl rfl (SVs.imp_refl _) (fun _ => rfl) rfl rfl rfl fun _ _ => ?_
    refine RJ_auto TT_ok rfl ?_
    refine T_ret TT_ok (()) [(4, some 32), (5, none)] rfl rfl ?_ ?_ ?_
    · exact SVs.imp_refl _
    · exact ⟨⟨_, rfl, Ch.imp_refl _⟩, ⟨_, rfl, Ch.imp_refl _⟩, ⟨_, rfl, Ch.imp_refl _⟩, trivial⟩
    · trivial
end Go.Proofs.YtcikaknfogpeeaaGreat
namespace Go.Proofs.YtcikaknfogpeeaaGreat
open Go Go.RowKit
set_option linter.unusedVariables false
set_option linter.unusedSimpArgs false
set_option maxRecDepth 4000
theorem exactStep_q (x : GCluster) (a : Int) (hb : D.bds maxL (cCluster x)) : Ans Tryz.prog 3 [] [vR (cCluster x), vI a] [] (vB true) := by
  refine con_enter Tryz.func3 rfl rfl rfl fun B0 r_ D_ w0 => ?_
  refine T_auto TT_ok rfl ?_
  refine RJ_Q TT_ok (szCluster_g _ hb _ (by decide) (by decide)) rfl rfl rfl rfl rfl ?_
  refine T_condD rfl (fun e => ?_) (fun e => ?_)
  · refine T_auto TT_ok rfl ?_
    exact T_ansB TT_ok [(4, none)] rfl rfl (rfl)
  have h := small_of e
  have hM : (1 : Int) + (sumW mPlace x.places : Nat) + (sumW mMachine x.machines : Nat) + (sumW mTx x.txs : Nat) ≤ 1000000000000 := marks_of e
  have hN : decide ((1 : Int) + (sumW mPlace x.places : Nat) + (sumW mMachine x.machines : Nat) + (sumW mTx x.txs : Nat) < 0) = false := decide_eq_false (by omega)
  have hw := step_w (small_w e) a
  have h3 := bd_Cluster _ hw
  have hR := marks_le hw
  clear e
  refine T_auto TT_ok rfl ?_
  refine RJ_C TT_ok (Con.sw 901 7201 (Con.sw 902 7202 (Con.sw 903 7203 (toCluster_g x h)))) rfl rfl (SVs.imp_refl _) (fun _ => rfl) rfl rfl rfl fun _ _ => ?_
  refine RJ_auto TT_ok rfl ?_
  refine RJ_C TT_ok (Con.sw 901 50011 (Con.sw 902 50012 (Con.sw 903 50013 (spec_Step_m x h a)))) rfl rfl (SVs.imp_refl _) (fun _ => rfl) rfl rfl rfl fun _ _ => ?_
  refine RJ_auto TT_ok rfl ?_
  refine RJ_C TT_ok (Con.sw 901 7211 (Con.sw 902 7212 (Con.sw 903 7213 (toCluster_g x h)))) rfl rfl (SVs.imp_refl _) (fun _ => rfl) rfl rfl rfl fun _ _ => ?_
  refine RJ_auto TT_ok rfl ?_
  refine RJ_C TT_ok (Con.sw 901 50021 (Con.sw 902 50022 (Con.sw 903 50023 (impl_Step_m x h a)))) rfl rfl (SVs.imp_refl _) (fun _ => rfl) rfl rfl rfl fun _ _ => ?_
  refine RJ_auto TT_ok rfl ?_
  refine RJ_Q TT_ok (eqCluster_g _ h3) rfl rfl rfl rfl rfl ?_
  refine T_cond rfl (fun e => by simp at e) (fun _ => ?_)
  refine T_auto TT_ok rfl ?_
  refine T_drawA TT_ok [] rfl rfl fun B0 H0 => ?_
  refine DJ_C 2 (Con.sw 901 7241 (Con.sw 902 7242 (Con.sw 903 7243 (toCluster_g x h)))) rfl rfl rfl (SVs.imp_refl _) (fun _ => rfl) rfl rfl rfl fun _ _ => ?_
  refine DJ_Q1 3 (eqCluster_g x h) rfl rfl rfl rfl rfl ?_
  refine DJ_on TT_ok rfl ?_
  refine DJ_endA TT_ok rfl ?_
  refine T_cond rfl (fun e => by cases e) (fun _ => ?_)
  refine T_auto TT_ok rfl ?_
  refine RJ_C TT_ok (Con.sw 901 7211 (Con.sw 902 7212 (Con.sw 903 7213 (markCluster_g x h 1 (by decide) hM)))) rfl rfl (SVs.imp_refl _) (fun _ => rfl) rfl rfl rfl fun _ _ => ?_
  refine RJ_auto TT_ok rfl ?_
  refine RJ_Q TT_ok (eqCluster_g _ h3) rfl rfl rfl rfl rfl ?_
  refine T_cond rfl (fun e => by rw [hN] at e; simp at e) (fun _ => ?_)
  refine T_auto TT_ok rfl ?_
  refine RJ_C TT_ok (Con.sw 901 50021 (Con.sw 902 50022 (Con.sw 903 50023 (markCluster_g _ h3 1 (by decide) hR)))) rfl rfl (SVs.imp_refl _) (fun _ => rfl) rfl rfl rfl fun _ _ => ?_
  refine RJ_auto TT_ok rfl ?_
  refine RJ_Q TT_ok (heldCluster_g _ h3 1 (by decide) hR) rfl rfl rfl rfl rfl ?_
  refine T_condD rfl (fun e => by omega) (fun _ => ?_)
  refine T_auto TT_ok rfl ?_
  refine T_condN rfl (fun e => absurd rfl e) (fun _ => ?_)
  refine T_auto TT_ok rfl ?_
  refine RJ_C TT_ok (Con.sw 901 7551 (Con.sw 902 7552 (Con.sw 903 7553 (toCluster_g x h)))) rfl rfl (SVs.imp_refl _) (fun _ => rfl) rfl rfl rfl fun _ _ => ?_
  refine RJ_auto TT_ok rfl ?_
  refine RJ_C TT_ok (Con.sw 901 50031 (Con.sw 902 50032 (Con.sw 903 50033 (impl_Step_m x h a)))) rfl rfl (SVs.imp_refl _) (fun _ => rfl) rfl rfl rfl fun _ _ => ?_
  refine RJ_auto TT_ok rfl ?_
  refine RJ_Q TT_ok (eqCluster_g _ h3) rfl rfl rfl rfl rfl ?_
  refine T_cond rfl (fun e => by simp at e) (fun _ => ?_)
  refine T_auto TT_ok rfl ?_
  refine RJ_Q TT_ok (heldCluster_g _ h3 1 (by decide) hR) rfl rfl rfl rfl rfl ?_
  refine T_condD rfl (fun e => by omega) (fun _ => ?_)
  refine T_auto TT_ok rfl ?_
  refine T_condN rfl (fun e => absurd rfl e) (fun _ => ?_)
  refine T_auto TT_ok rfl ?_
  exact T_ansB TT_ok [(4, none)] rfl rfl (rfl)
theorem exactFinish_q (x : GCluster) (a : Int) (hb : D.bds maxL (cCluster x)) : Ans Tryz.prog 4 [] [vR (cCluster x), vI a] [] (vB true) := by
  refine con_enter Tryz.func4 rfl rfl rfl fun B0 r_ D_ w0 => ?_
  refine T_auto TT_ok rfl ?_
  refine RJ_Q TT_ok (szCluster_g _ hb _ (by decide) (by decide)) rfl rfl rfl rfl rfl ?_
  refine T_condD rfl (fun e => ?_) (fun e => ?_)
  · refine T_auto TT_ok rfl ?_
    exact T_ansB TT_ok [(4, none)] rfl rfl (rfl)
  have h := small_of e
  have hM : (1 : Int) + (sumW mPlace x.places : Nat) + (sumW mMachine x.machines : Nat) + (sumW mTx x.txs : Nat) ≤ 1000000000000 := marks_of e
  have hN : decide ((1 : Int) + (sumW mPlace x.places : Nat) + (sumW mMachine x.machines : Nat) + (sumW mTx x.txs : Nat) < 0) = false := decide_eq_false (by omega)
  have hw := finish_w (c := x) a
  have h3 := bd_Cluster _ hw
  have hR := marks_le hw
  clear e
  refine T_auto TT_ok rfl ?_
  refine RJ_C TT_ok (Con.sw 901 7201 (Con.sw 902 7202 (Con.sw 903 7203 (toCluster_g x h)))) rfl rfl (SVs.imp_refl _) (fun _ => rfl) rfl rfl rfl fun _ _ => ?_
  refine RJ_auto TT_ok rfl ?_
  refine RJ_C TT_ok (Con.sw 901 50011 (Con.sw 902 50012 (Con.sw 903 50013 (spec_Finish_m x h a)))) rfl rfl (SVs.imp_refl _) (fun _ => rfl) rfl rfl rfl fun _ _ => ?_
  refine RJ_auto TT_ok rfl ?_
  refine RJ_C TT_ok (Con.sw 901 7211 (Con.sw 902 7212 (Con.sw 903 7213 (toCluster_g x h)))) rfl rfl (SVs.imp_refl _) (fun _ => rfl) rfl rfl rfl fun _ _ => ?_
  refine RJ_auto TT_ok rfl ?_
  refine RJ_C TT_ok (Con.sw 901 50021 (Con.sw 902 50022 (Con.sw 903 50023 (impl_Finish_m x h a)))) rfl rfl (SVs.imp_refl _) (fun _ => rfl) rfl rfl rfl fun _ _ => ?_
  refine RJ_auto TT_ok rfl ?_
  refine RJ_Q TT_ok (eqCluster_g _ h3) rfl rfl rfl rfl rfl ?_
  refine T_cond rfl (fun e => by simp at e) (fun _ => ?_)
  refine T_auto TT_ok rfl ?_
  refine T_drawA TT_ok [] rfl rfl fun B0 H0 => ?_
  refine DJ_C 2 (Con.sw 901 7241 (Con.sw 902 7242 (Con.sw 903 7243 (toCluster_g x h)))) rfl rfl rfl (SVs.imp_refl _) (fun _ => rfl) rfl rfl rfl fun _ _ => ?_
  refine DJ_Q1 3 (eqCluster_g x h) rfl rfl rfl rfl rfl ?_
  refine DJ_on TT_ok rfl ?_
  refine DJ_endA TT_ok rfl ?_
  refine T_cond rfl (fun e => by cases e) (fun _ => ?_)
  refine T_auto TT_ok rfl ?_
  refine RJ_C TT_ok (Con.sw 901 7211 (Con.sw 902 7212 (Con.sw 903 7213 (markCluster_g x h 1 (by decide) hM)))) rfl rfl (SVs.imp_refl _) (fun _ => rfl) rfl rfl rfl fun _ _ => ?_
  refine RJ_auto TT_ok rfl ?_
  refine RJ_Q TT_ok (eqCluster_g _ h3) rfl rfl rfl rfl rfl ?_
  refine T_cond rfl (fun e => by rw [hN] at e; simp at e) (fun _ => ?_)
  refine T_auto TT_ok rfl ?_
  refine RJ_C TT_ok (Con.sw 901 50021 (Con.sw 902 50022 (Con.sw 903 50023 (markCluster_g _ h3 1 (by decide) hR)))) rfl rfl (SVs.imp_refl _) (fun _ => rfl) rfl rfl rfl fun _ _ => ?_
  refine RJ_auto TT_ok rfl ?_
  refine RJ_Q TT_ok (heldCluster_g _ h3 1 (by decide) hR) rfl rfl rfl rfl rfl ?_
  refine T_condD rfl (fun e => by omega) (fun _ => ?_)
  refine T_auto TT_ok rfl ?_
  refine T_condN rfl (fun e => absurd rfl e) (fun _ => ?_)
  refine T_auto TT_ok rfl ?_
  refine RJ_C TT_ok (Con.sw 901 7551 (Con.sw 902 7552 (Con.sw 903 7553 (toCluster_g x h)))) rfl rfl (SVs.imp_refl _) (fun _ => rfl) rfl rfl rfl fun _ _ => ?_
  refine RJ_auto TT_ok rfl ?_
  refine RJ_C TT_ok (Con.sw 901 50031 (Con.sw 902 50032 (Con.sw 903 50033 (impl_Finish_m x h a)))) rfl rfl (SVs.imp_refl _) (fun _ => rfl) rfl rfl rfl fun _ _ => ?_
  refine RJ_auto TT_ok rfl ?_
  refine RJ_Q TT_ok (eqCluster_g _ h3) rfl rfl rfl rfl rfl ?_
  refine T_cond rfl (fun e => by simp at e) (fun _ => ?_)
  refine T_auto TT_ok rfl ?_
  refine RJ_Q TT_ok (heldCluster_g _ h3 1 (by decide) hR) rfl rfl rfl rfl rfl ?_
  refine T_condD rfl (fun e => by omega) (fun _ => ?_)
  refine T_auto TT_ok rfl ?_
  refine T_condN rfl (fun e => absurd rfl e) (fun _ => ?_)
  refine T_auto TT_ok rfl ?_
  exact T_ansB TT_ok [(4, none)] rfl rfl (rfl)
end Go.Proofs.YtcikaknfogpeeaaGreat
namespace Go.Proofs.YtcikaknfogpeeaaGreat
open Go Go.RowKit
set_option linter.unusedVariables false
set_option linter.unusedSimpArgs false
def rofW (W : World) : PH := fun b o => match W.cell? ⟨b, o, none⟩ with
  | some v => bif W.frozen? ⟨b, o, none⟩ then none else some v
  | none => none
theorem rofW_fit (W : World) : Fit (rofW W) W := fun b o v e => by
  unfold rofW at e
  cases h : W.cell? ⟨b, o, none⟩ with
  | none => rw [h] at e; cases e
  | some u =>
    rw [h] at e
    simp only at e
    cases hf : W.frozen? ⟨b, o, none⟩ with
    | true => rw [hf] at e; cases e
    | false => rw [hf] at e; exact ⟨e, rfl⟩
theorem rofW_at {W : World} {b o : Nat} {v : Value} (h : W.cell? ⟨b, o, none⟩ = some v) (hf : W.frozen? ⟨b, o, none⟩ = false) : rofW W b o = some v := by
  unfold rofW; rw [h]; simp only; rw [hf]; rfl
def Opens (P : Program) (t : TypeId) {α : Type} (k : α → List D) : Prop :=
  ∀ {H : Type} (enc : TypeId × Value → H) (W : World) (fuel : Nat) (cs : List Value) (x : DataW H × List MemPlace),
    DataW.trod enc P W 0 (fun _ => true) true fuel t cs = some x → W.noneFrozen x.2 → ∃ y, D.rds (rofW W) (k y) cs
section
variable {P : Program} {TT : List TI}
theorem opens_int {t : TypeId} (h : P.underlying t = some (.int .i64)) : Opens P t cInt := fun enc W fuel cs x hx _ => by
  have : ∃ y : Int, cs = [.int .i64 y] := by
    cases fuel with
    | zero => simp [DataW.trod] at hx
    | succ n =>
      unfold DataW.trod at hx
      rw [h] at hx
      split at hx <;> simp_all
  obtain ⟨y, rfl⟩ := this
  exact ⟨y, _, _, rfl, rfl, rfl⟩
theorem opens_bool {t : TypeId} (h : P.underlying t = some .bool) : Opens P t cBool := fun enc W fuel cs x hx _ => by
  have : ∃ y : Bool, cs = [.bool y] := by
    cases fuel with
    | zero => simp [DataW.trod] at hx
    | succ n =>
      unfold DataW.trod at hx
      rw [h] at hx
      split at hx <;> first | exact ⟨_, rfl⟩ | simp_all
  obtain ⟨y, rfl⟩ := this
  exact ⟨y, _, _, rfl, rfl, rfl⟩
theorem noneFrozen_sub {W : World} {ps qs : List MemPlace} (h : W.noneFrozen ps) (hs : ∀ x ∈ qs, x ∈ ps) : W.noneFrozen qs := fun b o hm => h b o (hs _ hm)
theorem spot_none {W : World} {a : Addr} {v : Value} (h : W.cell? a = some v) : a = ⟨a.block, a.off, none⟩ := by
  obtain ⟨b, o, s⟩ := a
  cases s with
  | none => rfl
  | some s =>
    simp only [World.cell?] at h
    split at h <;> simp at h
theorem add_add_none (b o i j : Nat) : ((⟨b, o, none⟩ : Addr).add i).add j = ⟨b, o + i + j, none⟩ := by
  unfold Addr.add
  by_cases hi : i = 0 <;> by_cases hj : j = 0 <;> simp [hi, hj]
theorem opens_slice {t e : TypeId} {α : Type} {k : α → List D} (sz : Nat) (z : α) (ht : P.underlying t = some (.slice e)) (hk : Opens P e k) (hc : P.cellsOf e = sz) (hpos : 0 < sz) : Opens P t fun xs : List α => [dL sz k z xs] := fun enc W fuel cs x hx hf => by
  rcases DataW.trod_slice ht hx with ⟨rfl, rfl⟩ | ⟨a, len, cap, elems, rest, n, _, rfl, rfl, hb, hl, hm, hlen, hel, _, _⟩
  · exact ⟨[], _, _, rfl, ⟨none, 0, rfl, Nat.le_refl _, Nat.zero_le _, .inl rfl⟩, rfl⟩
  · rw [hc] at hel
    have each : ∀ i, i < len → ∃ y row, D.rds (rofW W) (k y) row ∧ row.length = sz ∧ ∀ j, j < sz → W.cell? ((a.add (i * sz)).add j) = row[j]? := by
      intro i hi
      have h1 := hel i hi
      cases hcs : W.cells? 0 (a.add (i * sz)) sz with
      | none => rw [hcs] at h1; simp at h1; omega
      | some cs =>
        rw [hcs] at h1
        simp only [Option.bind_some] at h1
        obtain ⟨g1, g2, g3⟩ := World.cells?_some hcs
        have hlt : i < elems.length := by omega
        rw [List.getElem?_eq_getElem hlt] at h1
        obtain ⟨y, hy⟩ := hk enc W n cs _ h1 (noneFrozen_sub hf fun x hx => List.mem_append_right _ (List.mem_flatMap.2 ⟨_, List.mem_append_left _ (List.getElem_mem hlt), hx⟩))
        exact ⟨y, cs, hy, g2, g3⟩
    have hml : len ≤ maxL := Nat.le_trans (Nat.le_trans hl hm) (Nat.le_of_ble_eq_true rfl)
    by_cases h0 : len = 0
    · subst h0
      exact ⟨[], _, _, rfl, ⟨some a, cap, rfl, by simp, Nat.zero_le _, .inl rfl⟩, rfl⟩
    · obtain ⟨y0, row0, _, r2, r3⟩ := each 0 (by omega)
      have ha : a = ⟨a.block, a.off, none⟩ := by
        have h := r3 0 hpos
        rw [List.getElem?_eq_getElem (by omega)] at h
        have : (a.add (0 * sz)).add 0 = a := by rw [Nat.zero_mul]; rfl
        rw [this] at h
        exact spot_none h
      have hadd : ∀ i j, (a.add i).add j = ⟨a.block, a.off + i + j, none⟩ := fun i j => by
        conv => lhs; rw [ha]
        exact add_add_none _ _ i j
      have hcell : ∀ i j, i < len → j < sz → MemPlace.cell a.block (a.off + i * sz + j) ∈ MemPlace.row a ((elems.length + rest.length) * P.cellsOf e) := fun i j hi hj => by
        refine MemPlace.mem_row.2 ⟨i * sz + j, ?_, by rw [Nat.add_assoc]⟩
        rw [hc]
        have h1 : (i + 1) * sz ≤ (elems.length + rest.length) * sz := Nat.mul_le_mul_right _ (by omega)
        rw [Nat.add_mul, Nat.one_mul] at h1
        omega
      let f : Nat → α := fun i => if h : i < len then (each i h).choose else y0
      have hf' : ∀ i (h : i < len), f i = (each i h).choose := fun i h => by simp only [f, dif_pos h]
      have hlen' : ((List.range len).map f).length = len := by simp
      refine ⟨(List.range len).map f, _, _, rfl, ⟨some a, cap, by rw [hlen'], by rw [hlen']; simpa using hl, by rw [hlen']; exact hml, .inr ⟨a.block, a.off, by rw [← ha], fun i hi => ?_⟩⟩, rfl⟩
      rw [hlen'] at hi
      obtain ⟨row, q1, q2, q3⟩ := (each i hi).choose_spec
      have hg : ((List.range len).map f).getD i z = (each i hi).choose := by simp [hi, hf' i hi]
      refine ⟨row, by show D.rds _ (k (((List.range len).map f).getD i z)) row; rw [hg]; exact q1, q2, fun j hj => ?_⟩
      have h := q3 j hj
      rw [hadd] at h
      rw [List.getElem?_eq_getElem (by omega)] at h ⊢
      exact rofW_at h (hf _ _ (List.mem_append_left _ (hcell i j hi hj)))
theorem opens_fields (hT : TOk P TT) {t : TypeId} {sz by_ : Nat} {z : Value} {ef : Bool} {l : List (Nat × Nat)} (h1 : tlk t TT = some ⟨t, sz, by_, .st l, z, ef⟩) {H : Type} {enc : TypeId × Value → H} {W : World} {fuel : Nat} {cs : List Value} {x : DataW H × List MemPlace}
    (hx : DataW.trod enc P W 0 (fun _ => true) true fuel t cs = some x) (hf : W.noneFrozen x.2) : cs.length = sz ∧ ∀ (i o : Nat) (ft : Nat) (tf : TI), l[i]? = some (o, ft) → tlk ft TT = some tf → ∃ (n : Nat) (y : DataW H × List MemPlace), DataW.trod enc P W 0 (fun _ => true) true n ft ((cs.drop o).take tf.sz) = some y ∧ W.noneFrozen y.2 := by
  obtain ⟨_, ok⟩ := hT.get h1
  obtain ⟨d, d1, d2⟩ := ok.desc
  obtain ⟨i, i1, i2, _⟩ := ok.info
  simp only at d1 d2 i1 i2
  obtain ⟨fs, rfl, hfs⟩ := shapeK_st d2
  obtain ⟨xs, n, _, rfl, h3, h4, h5⟩ := DataW.trod_struct d1 hx
  refine ⟨by rw [h3]; simp [Program.cellsOf, i1, i2], fun j o ft tf hj ht => ?_⟩
  rw [← hfs, List.getElem?_map] at hj
  cases hfj : fs.toList[j]? with
  | none => rw [hfj] at hj; cases hj
  | some f =>
    rw [hfj] at hj
    simp at hj
    obtain ⟨rfl, rfl⟩ := hj
    have hfj' : fs[j]? = some f := by simpa using hfj
    have h6 := h5 j f hfj'
    obtain ⟨e1, ok2⟩ := hT.get ht
    obtain ⟨i', j1, j2, _⟩ := ok2.info
    have hlt : j < xs.length := by rw [h4]; exact (Array.getElem?_eq_some_iff.1 hfj').1
    rw [List.getElem?_eq_getElem hlt] at h6
    refine ⟨n, xs[j], ?_, noneFrozen_sub hf fun y hy => List.mem_flatMap.2 ⟨_, List.getElem_mem hlt, hy⟩⟩
    rw [← h6]
    congr 2
    simp [Program.cellsOf, ← e1, j1, j2]
end
theorem rds_one {h : PH} {d : D} {a : Value} (e : D.rds h [d] [a]) : D.rd h d a := by
  obtain ⟨y, t, e1, e2, _⟩ := e
  injection e1 with e1
  rw [e1]; exact e2
theorem len1 {α : Type} {l : List α} (h : l.length = 1) : ∃ a0, l = [a0] := by
  match l, h with
  | [a0], _ => exact ⟨a0, rfl⟩
theorem len2 {α : Type} {l : List α} (h : l.length = 2) : ∃ a0 a1, l = [a0, a1] := by
  match l, h with
  | [a0, a1], _ => exact ⟨a0, a1, rfl⟩
theorem len4 {α : Type} {l : List α} (h : l.length = 4) : ∃ a0 a1 a2 a3, l = [a0, a1, a2, a3] := by
  match l, h with
  | [a0, a1, a2, a3], _ => exact ⟨a0, a1, a2, a3, rfl⟩
theorem len5 {α : Type} {l : List α} (h : l.length = 5) : ∃ a0 a1 a2 a3 a4, l = [a0, a1, a2, a3, a4] := by
  match l, h with
  | [a0, a1, a2, a3, a4], _ => exact ⟨a0, a1, a2, a3, a4, rfl⟩
theorem len6 {α : Type} {l : List α} (h : l.length = 6) : ∃ a0 a1 a2 a3 a4 a5, l = [a0, a1, a2, a3, a4, a5] := by
  match l, h with
  | [a0, a1, a2, a3, a4, a5], _ => exact ⟨a0, a1, a2, a3, a4, a5, rfl⟩
theorem len7 {α : Type} {l : List α} (h : l.length = 7) : ∃ a0 a1 a2 a3 a4 a5 a6, l = [a0, a1, a2, a3, a4, a5, a6] := by
  match l, h with
  | [a0, a1, a2, a3, a4, a5, a6], _ => exact ⟨a0, a1, a2, a3, a4, a5, a6, rfl⟩
theorem opens_Int : Opens Tryz.prog 2 cInt := opens_int Tryz.underlying2
theorem opens_Bool : Opens Tryz.prog 4 cBool := opens_bool Tryz.underlying4
theorem opens_Set : Opens Tryz.prog 223 cSet := fun enc W fuel cs x hx hf => by
  obtain ⟨hl, h⟩ := opens_fields TT_ok (t := 223) rfl hx hf
  obtain ⟨a0, a1, a2, a3, a4, rfl⟩ := len5 hl
  obtain ⟨n0, y0, t0, f0⟩ := h 0 _ _ _ rfl rfl
  obtain ⟨x0, e0⟩ := opens_Int enc W _ _ _ t0 f0
  obtain ⟨n1, y1, t1, f1⟩ := h 1 _ _ _ rfl rfl
  obtain ⟨x1, e1⟩ := opens_Int enc W _ _ _ t1 f1
  obtain ⟨n2, y2, t2, f2⟩ := h 2 _ _ _ rfl rfl
  obtain ⟨x2, e2⟩ := opens_Int enc W _ _ _ t2 f2
  obtain ⟨n3, y3, t3, f3⟩ := h 3 _ _ _ rfl rfl
  obtain ⟨x3, e3⟩ := opens_Bool enc W _ _ _ t3 f3
  obtain ⟨n4, y4, t4, f4⟩ := h 4 _ _ _ rfl rfl
  obtain ⟨x4, e4⟩ := opens_Int enc W _ _ _ t4 f4
  exact ⟨⟨x0, x1, x2, x3, x4⟩, ⟨a0, _, rfl, rds_one e0, ⟨a1, _, rfl, rds_one e1, ⟨a2, _, rfl, rds_one e2, ⟨a3, _, rfl, rds_one e3, ⟨a4, _, rfl, rds_one e4, rfl⟩⟩⟩⟩⟩⟩
theorem opens_Note : Opens Tryz.prog 221 cNote := fun enc W fuel cs x hx hf => by
  obtain ⟨hl, h⟩ := opens_fields TT_ok (t := 221) rfl hx hf
  obtain ⟨a0, a1, a2, a3, a4, rfl⟩ := len5 hl
  obtain ⟨n0, y0, t0, f0⟩ := h 0 _ _ _ rfl rfl
  obtain ⟨x0, e0⟩ := opens_Int enc W _ _ _ t0 f0
  obtain ⟨n1, y1, t1, f1⟩ := h 1 _ _ _ rfl rfl
  obtain ⟨x1, e1⟩ := opens_Int enc W _ _ _ t1 f1
  obtain ⟨n2, y2, t2, f2⟩ := h 2 _ _ _ rfl rfl
  obtain ⟨x2, e2⟩ := opens_Int enc W _ _ _ t2 f2
  obtain ⟨n3, y3, t3, f3⟩ := h 3 _ _ _ rfl rfl
  obtain ⟨x3, e3⟩ := opens_Int enc W _ _ _ t3 f3
  obtain ⟨n4, y4, t4, f4⟩ := h 4 _ _ _ rfl rfl
  obtain ⟨x4, e4⟩ := opens_Bool enc W _ _ _ t4 f4
  exact ⟨⟨x0, x1, x2, x3, x4⟩, ⟨a0, _, rfl, rds_one e0, ⟨a1, _, rfl, rds_one e1, ⟨a2, _, rfl, rds_one e2, ⟨a3, _, rfl, rds_one e3, ⟨a4, _, rfl, rds_one e4, rfl⟩⟩⟩⟩⟩⟩
theorem opens_Cell : Opens Tryz.prog 253 cCell := fun enc W fuel cs x hx hf => by
  obtain ⟨hl, h⟩ := opens_fields TT_ok (t := 253) rfl hx hf
  obtain ⟨a0, a1, rfl⟩ := len2 hl
  obtain ⟨n0, y0, t0, f0⟩ := h 0 _ _ _ rfl rfl
  obtain ⟨x0, e0⟩ := opens_Int enc W _ _ _ t0 f0
  obtain ⟨n1, y1, t1, f1⟩ := h 1 _ _ _ rfl rfl
  obtain ⟨x1, e1⟩ := opens_Int enc W _ _ _ t1 f1
  exact ⟨⟨x0, x1⟩, ⟨a0, _, rfl, rds_one e0, ⟨a1, _, rfl, rds_one e1, rfl⟩⟩⟩
theorem opens_Tx_4 : Opens Tryz.prog 94 (fun xs : List GNote => [dL 5 cNote GNote.z xs]) := opens_slice 5 GNote.z Tryz.underlying94 opens_Note (by kernel_rfl) (Nat.lt_of_sub_eq_succ rfl)
theorem opens_Tx_5 : Opens Tryz.prog 95 (fun xs : List GSet => [dL 5 cSet GSet.z xs]) := opens_slice 5 GSet.z Tryz.underlying95 opens_Set (by kernel_rfl) (Nat.lt_of_sub_eq_succ rfl)
theorem opens_Tx : Opens Tryz.prog 97 cTx := fun enc W fuel cs x hx hf => by
  obtain ⟨hl, h⟩ := opens_fields TT_ok (t := 97) rfl hx hf
  obtain ⟨a0, a1, a2, a3, a4, a5, a6, rfl⟩ := len7 hl
  obtain ⟨n0, y0, t0, f0⟩ := h 0 _ _ _ rfl rfl
  obtain ⟨x0, e0⟩ := opens_Int enc W _ _ _ t0 f0
  obtain ⟨n1, y1, t1, f1⟩ := h 1 _ _ _ rfl rfl
  obtain ⟨x1, e1⟩ := opens_Int enc W _ _ _ t1 f1
  obtain ⟨n2, y2, t2, f2⟩ := h 2 _ _ _ rfl rfl
  obtain ⟨x2, e2⟩ := opens_Int enc W _ _ _ t2 f2
  obtain ⟨n3, y3, t3, f3⟩ := h 3 _ _ _ rfl rfl
  obtain ⟨x3, e3⟩ := opens_Int enc W _ _ _ t3 f3
  obtain ⟨n4, y4, t4, f4⟩ := h 4 _ _ _ rfl rfl
  obtain ⟨x4, e4⟩ := opens_Tx_4 enc W _ _ _ t4 f4
  obtain ⟨n5, y5, t5, f5⟩ := h 5 _ _ _ rfl rfl
  obtain ⟨x5, e5⟩ := opens_Tx_5 enc W _ _ _ t5 f5
  obtain ⟨n6, y6, t6, f6⟩ := h 6 _ _ _ rfl rfl
  obtain ⟨x6, e6⟩ := opens_Int enc W _ _ _ t6 f6
  exact ⟨⟨x0, x1, x2, x3, x4, x5, x6⟩, ⟨a0, _, rfl, rds_one e0, ⟨a1, _, rfl, rds_one e1, ⟨a2, _, rfl, rds_one e2, ⟨a3, _, rfl, rds_one e3, ⟨a4, _, rfl, rds_one e4, ⟨a5, _, rfl, rds_one e5, ⟨a6, _, rfl, rds_one e6, rfl⟩⟩⟩⟩⟩⟩⟩⟩
end Go.Proofs.YtcikaknfogpeeaaGreat
namespace Go.Proofs.YtcikaknfogpeeaaGreat
open Go Go.RowKit
set_option linter.unusedVariables false
set_option linter.unusedSimpArgs false
theorem opens_CellS : Opens Tryz.prog 212 (fun xs : List GCell => [dL 2 cCell GCell.z xs]) := opens_slice 2 GCell.z Tryz.underlying212 opens_Cell (by kernel_rfl) (Nat.lt_of_sub_eq_succ rfl)
theorem opens_SetS : Opens Tryz.prog 95 (fun xs : List GSet => [dL 5 cSet GSet.z xs]) := opens_slice 5 GSet.z Tryz.underlying95 opens_Set (by kernel_rfl) (Nat.lt_of_sub_eq_succ rfl)
theorem opens_Int64S : Opens Tryz.prog 69 (fun xs : List Int => [dL 1 cInt 0 xs]) := opens_slice 1 0 Tryz.underlying69 opens_Int (by kernel_rfl) (Nat.lt_of_sub_eq_succ rfl)
theorem opens_Place : Opens Tryz.prog 87 cPlace := fun enc W fuel cs x hx hf => by
  obtain ⟨hl, h⟩ := opens_fields TT_ok (t := 87) rfl hx hf
  obtain ⟨a0, rfl⟩ := len1 hl
  obtain ⟨n0, y0, t0, f0⟩ := h 0 _ _ _ rfl rfl
  obtain ⟨x0, e0⟩ := opens_Int64S enc W _ _ _ t0 f0
  exact ⟨⟨x0⟩, ⟨a0, _, rfl, rds_one e0, rfl⟩⟩
theorem opens_PlaceS : Opens Tryz.prog 22 (fun xs : List GPlace => [dL 1 cPlace GPlace.z xs]) := opens_slice 1 GPlace.z Tryz.underlying22 opens_Place (by kernel_rfl) (Nat.lt_of_sub_eq_succ rfl)
theorem opens_Record : Opens Tryz.prog 217 cRecord := fun enc W fuel cs x hx hf => by
  obtain ⟨hl, h⟩ := opens_fields TT_ok (t := 217) rfl hx hf
  obtain ⟨a0, a1, a2, a3, rfl⟩ := len4 hl
  obtain ⟨n0, y0, t0, f0⟩ := h 0 _ _ _ rfl rfl
  obtain ⟨x0, e0⟩ := opens_Int enc W _ _ _ t0 f0
  obtain ⟨n1, y1, t1, f1⟩ := h 1 _ _ _ rfl rfl
  obtain ⟨x1, e1⟩ := opens_Int enc W _ _ _ t1 f1
  obtain ⟨n2, y2, t2, f2⟩ := h 2 _ _ _ rfl rfl
  obtain ⟨x2, e2⟩ := opens_Int enc W _ _ _ t2 f2
  obtain ⟨n3, y3, t3, f3⟩ := h 3 _ _ _ rfl rfl
  obtain ⟨x3, e3⟩ := opens_SetS enc W _ _ _ t3 f3
  exact ⟨⟨x0, x1, x2, x3⟩, ⟨a0, _, rfl, rds_one e0, ⟨a1, _, rfl, rds_one e1, ⟨a2, _, rfl, rds_one e2, ⟨a3, _, rfl, rds_one e3, rfl⟩⟩⟩⟩⟩
theorem opens_RecordS : Opens Tryz.prog 90 (fun xs : List GRecord => [dL 4 cRecord GRecord.z xs]) := opens_slice 4 GRecord.z Tryz.underlying90 opens_Record (by kernel_rfl) (Nat.lt_of_sub_eq_succ rfl)
theorem opens_Copy : Opens Tryz.prog 214 cCopy := fun enc W fuel cs x hx hf => by
  obtain ⟨hl, h⟩ := opens_fields TT_ok (t := 214) rfl hx hf
  obtain ⟨a0, a1, rfl⟩ := len2 hl
  obtain ⟨n0, y0, t0, f0⟩ := h 0 _ _ _ rfl rfl
  obtain ⟨x0, e0⟩ := opens_Int enc W _ _ _ t0 f0
  obtain ⟨n1, y1, t1, f1⟩ := h 1 _ _ _ rfl rfl
  obtain ⟨x1, e1⟩ := opens_CellS enc W _ _ _ t1 f1
  exact ⟨⟨x0, x1⟩, ⟨a0, _, rfl, rds_one e0, ⟨a1, _, rfl, rds_one e1, rfl⟩⟩⟩
theorem opens_CopyS : Opens Tryz.prog 89 (fun xs : List GCopy => [dL 2 cCopy GCopy.z xs]) := opens_slice 2 GCopy.z Tryz.underlying89 opens_Copy (by kernel_rfl) (Nat.lt_of_sub_eq_succ rfl)
theorem opens_Machine : Opens Tryz.prog 92 cMachine := fun enc W fuel cs x hx hf => by
  obtain ⟨hl, h⟩ := opens_fields TT_ok (t := 92) rfl hx hf
  obtain ⟨a0, a1, a2, a3, rfl⟩ := len4 hl
  obtain ⟨n0, y0, t0, f0⟩ := h 0 _ _ _ rfl rfl
  obtain ⟨x0, e0⟩ := opens_Bool enc W _ _ _ t0 f0
  obtain ⟨n1, y1, t1, f1⟩ := h 1 _ _ _ rfl rfl
  obtain ⟨x1, e1⟩ := opens_CopyS enc W _ _ _ t1 f1
  obtain ⟨n2, y2, t2, f2⟩ := h 2 _ _ _ rfl rfl
  obtain ⟨x2, e2⟩ := opens_RecordS enc W _ _ _ t2 f2
  obtain ⟨n3, y3, t3, f3⟩ := h 3 _ _ _ rfl rfl
  obtain ⟨x3, e3⟩ := opens_Int64S enc W _ _ _ t3 f3
  exact ⟨⟨x0, x1, x2, x3⟩, ⟨a0, _, rfl, rds_one e0, ⟨a1, _, rfl, rds_one e1, ⟨a2, _, rfl, rds_one e2, ⟨a3, _, rfl, rds_one e3, rfl⟩⟩⟩⟩⟩
theorem opens_MachineS : Opens Tryz.prog 23 (fun xs : List GMachine => [dL 4 cMachine GMachine.z xs]) := opens_slice 4 GMachine.z Tryz.underlying23 opens_Machine (by kernel_rfl) (Nat.lt_of_sub_eq_succ rfl)
theorem opens_TxS : Opens Tryz.prog 24 (fun xs : List GTx => [dL 7 cTx GTx.z xs]) := opens_slice 7 GTx.z Tryz.underlying24 opens_Tx (by kernel_rfl) (Nat.lt_of_sub_eq_succ rfl)
theorem opens_Cluster : Opens Tryz.prog 26 cCluster := fun enc W fuel cs x hx hf => by
  obtain ⟨hl, h⟩ := opens_fields TT_ok (t := 26) rfl hx hf
  obtain ⟨a0, a1, a2, a3, a4, a5, rfl⟩ := len6 hl
  obtain ⟨n0, y0, t0, f0⟩ := h 0 _ _ _ rfl rfl
  obtain ⟨x0, e0⟩ := opens_Int enc W _ _ _ t0 f0
  obtain ⟨n1, y1, t1, f1⟩ := h 1 _ _ _ rfl rfl
  obtain ⟨x1, e1⟩ := opens_Int enc W _ _ _ t1 f1
  obtain ⟨n2, y2, t2, f2⟩ := h 2 _ _ _ rfl rfl
  obtain ⟨x2, e2⟩ := opens_PlaceS enc W _ _ _ t2 f2
  obtain ⟨n3, y3, t3, f3⟩ := h 3 _ _ _ rfl rfl
  obtain ⟨x3, e3⟩ := opens_MachineS enc W _ _ _ t3 f3
  obtain ⟨n4, y4, t4, f4⟩ := h 4 _ _ _ rfl rfl
  obtain ⟨x4, e4⟩ := opens_TxS enc W _ _ _ t4 f4
  obtain ⟨n5, y5, t5, f5⟩ := h 5 _ _ _ rfl rfl
  obtain ⟨x5, e5⟩ := opens_Bool enc W _ _ _ t5 f5
  exact ⟨⟨x0, x1, x2, x3, x4, x5⟩, ⟨a0, _, rfl, rds_one e0, ⟨a1, _, rfl, rds_one e1, ⟨a2, _, rfl, rds_one e2, ⟨a3, _, rfl, rds_one e3, ⟨a4, _, rfl, rds_one e4, ⟨a5, _, rfl, rds_one e5, rfl⟩⟩⟩⟩⟩⟩⟩
end Go.Proofs.YtcikaknfogpeeaaGreat
