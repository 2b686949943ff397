
/-
  Read, on the specification's side.
-/
import Derived.Test.YtpfcfepbhdkpdaaGreatP30
namespace Go.Proofs.YtpfcfepbhdkpdaaGreat
open Go Go.RowKit
set_option linter.unusedVariables false
set_option linter.unusedSimpArgs false
set_option maxRecDepth 4000

theorem spec_Version_q (h : Int) : Ans Tryz.prog 52 [] [vI h] [] (vI (verI h)) := by
  refine con_enter Tryz.func52 rfl rfl rfl fun B0 r_ D_ w0 => ?_
  refine T_auto TT_ok rfl ?_
  refine RJ_Q TT_ok (spec_HeadOk_q _) rfl rfl rfl rfl rfl ?_
  refine T_condX rfl (fun e => ?_) (fun e => ?_)
  · rw [show verI h = -1 from by unfold verI; rw [if_neg (by rw [show headB h = false from e]; simp)]]
    refine T_auto TT_ok rfl ?_
    exact T_ansI TT_ok [(2, none)] rfl rfl (rfl)
  · have hh := headB_iff.1 (show headB h = true from e)
    have hv : 0 ≤ h.tdiv 4 ∧ h.tdiv 4 ≤ 1000000 := by rw [Int.tdiv_eq_ediv_of_nonneg hh.1]; omega
    rw [show verI h = h.tdiv 4 from by unfold verI; rw [if_pos (show headB h = true from e)]]
    refine T_auto TT_ok rfl ?_
    exact T_ansI TT_ok [(2, none)] rfl rfl (rfl)
/-- the transaction, with a note perhaps; the value, the code -/
noncomputable def read9 (c : GCluster) (t : GTx) (r s : Int) : GTx × Int × Int :=
  bif cellB c r s then (t, 0, 5) else ((readR c t r s).1, (if (readR c t r s).2.2.2 = 0 then (readR c t r s).2.2.1 else 0), (readR c t r s).2.2.2)
theorem idx_note {t : GTx} {n : GNote} (h1 : t.reads.any (atNote n.region n.slot) = false) (h2 : (addRead' t n).2 = true) (hs : sortedN t.reads) :
    (0 ≤ idxI (atNote n.region n.slot) (addRead' t n).1.reads ∧ idxI (atNote n.region n.slot) (addRead' t n).1.reads < (addRead' t n).1.reads.length) ∧ noteIn (addRead' t n).1 n.region n.slot = n := by
  have hM : (addRead' t n).1.reads = insL (posA (cellN n.region n.slot) GNote.z t.reads) n t.reads := by
    unfold addRead' at h2 ⊢
    rw [h1] at h2 ⊢
    cases d : decide ((t.reads.length : Int) = 12) with
    | true => rw [d] at h2; cases h2
    | false => rfl
  have hany : (addRead' t n).1.reads.any (atNote n.region n.slot) = true := by
    rw [hM]; exact List.any_eq_true.2 ⟨n, mem_insL.2 (.inl rfl), atNote_iff.2 ⟨rfl, rfl⟩⟩
  have h0 := (any_idx (z := GNote.z)).2 hany
  obtain ⟨g1, g2⟩ := idxI_in (z := GNote.z) h0
  refine ⟨⟨h0, by omega⟩, ?_⟩
  have hmem : noteIn (addRead' t n).1 n.region n.slot ∈ (addRead' t n).1.reads := getD_mem g1
  rw [hM] at hmem
  rcases mem_insL.1 hmem with h | h
  · exact h
  · exact absurd (atNote_iff.1 g2) (not_any_note h1 _ h)
theorem l9Read_k (c : GCluster) (hb : D.bds bigN (cCluster c)) (hok : ClusOk c) (t : GTx) (ht : TxOk t) (r s : Int) :
    Con Tryz.prog 44 [78, 79] [vR (cCluster c), agTxG t 78 79, vI r, vI s] [(78, arrC 5 cNote GNote.z t.reads), (79, arrC 5 cSet GSet.z t.sets)] (fun _ : Unit => True) (fun _ => [agTxG (read9 c t r s).1 80 81, vI (read9 c t r s).2.1, vI (read9 c t r s).2.2])
      fun _ => [(80, arrC 5 cNote GNote.z (read9 c t r s).1.reads), (81, arrC 5 cSet GSet.z (read9 c t r s).1.sets)] := by
  have hsS := sortedS_of ht.2.2
  have hsN := sortedN_of ht.2.1
  have hl1 := ht.1.2.2.2.2.2.1
  have hl2 := ht.1.2.2.2.2.2.2
  have hbt : D.bds bigN (cTx t) := bd_Tx t (by unfold wTx; show _ ≤ 1048576; omega)
  have b1 : c.places.length ≤ 1048576 := hb.2.2.1.1
  refine con_enter Tryz.func44 rfl rfl rfl fun B0 r_ D_ w0 => ?_
  refine T_auto1 TT_ok rfl ?_
  refine T_freeze 4 rfl rfl rfl rfl (fun _ => rfl) (fun _ => rfl) fun r_ => ?_
  refine T_auto TT_ok rfl ?_
  refine RJ_Q TT_ok (spec_l1In_q _ _ _) rfl rfl rfl rfl rfl ?_
  refine RJ_Q TT_ok (spec_l1Slot_q _) rfl rfl rfl rfl rfl ?_
  refine T_cond (b := cellB c r s) rfl (fun e => ?_) (fun e => ?_)
  · rw [show read9 c t r s = (t, 0, 5) from by unfold read9; rw [e]; rfl]
    refine T_auto TT_ok rfl ?_
    refine T_view (V_fold 8 4 78 rfl rfl rfl rfl rfl rfl rfl) ?_
    refine T_view (V_open 8 4 80 rfl rfl rfl rfl rfl rfl) ?_
    refine T_view (V_fold 8 5 79 rfl rfl rfl rfl rfl rfl rfl) ?_
    refine T_view (V_open 8 5 81 rfl rfl rfl rfl rfl rfl) ?_
    refine T_ret TT_ok (()) [(8, some 56), (9, none), (10, none)] rfl rfl ?_ ?_ ?_
    · exact SVs.imp_refl _
    · exact ⟨⟨_, rfl, Ch.imp_refl _⟩, ⟨_, rfl, Ch.imp_refl _⟩, trivial⟩
    · trivial
  obtain ⟨hr, hs⟩ := cellB_in e
  have hpl := hok.pl (r := r.toNat) (by omega)
  have hm := (hok.at (r := r.toNat) (k := 0) (by omega) (by omega)).1
  have hq : read9 c t r s = ((readR c t r s).1, (if (readR c t r s).2.2.2 = 0 then (readR c t r s).2.2.1 else 0), (readR c t r s).2.2.2) := by unfold read9; rw [e]; rfl
  rw [hq]
  refine T_auto TT_ok rfl ?_
  refine RJ_Q TT_ok (l7Set_q t (by omega) r s) rfl rfl rfl rfl rfl ?_
  refine T_condD rfl (fun e1 => ?_) (fun e1 => ?_)
  · have hany : t.sets.any (atCell r s) = true := (any_idx (z := GSet.z)).1 e1
    have hin := idxI_in (z := GSet.z) e1
    have hin2 : 0 ≤ idxI (atCell r s) t.sets ∧ idxI (atCell r s) t.sets < t.sets.length := ⟨e1, by omega⟩
    rw [show readR c t r s = (t, (setIn t r s).version, (setIn t r s).value, freeC (setIn t r s).used) from by unfold readR; rw [hany]; rfl]
    refine T_auto TT_ok rfl ?_
    refine T_cond (b := !(setIn t r s).used) rfl (fun e2 => ?_) (fun e2 => ?_)
    · rw [show (setIn t r s).used = false from by simpa using e2, show freeC false = 8 from rfl]
      refine T_auto TT_ok rfl ?_
      refine T_view (V_fold 8 4 78 rfl rfl rfl rfl rfl rfl rfl) ?_
      refine T_view (V_open 8 4 80 rfl rfl rfl rfl rfl rfl) ?_
      refine T_view (V_fold 8 5 79 rfl rfl rfl rfl rfl rfl rfl) ?_
      refine T_view (V_open 8 5 81 rfl rfl rfl rfl rfl rfl) ?_
      refine T_ret TT_ok (()) [(8, some 56), (9, none), (10, none)] rfl rfl ?_ ?_ ?_
      · exact SVs.imp_refl _
      · exact ⟨⟨_, rfl, Ch.imp_refl _⟩, ⟨_, rfl, Ch.imp_refl _⟩, trivial⟩
      · trivial
    rw [show (setIn t r s).used = true from by simpa using e2, show freeC true = 0 from rfl]
    refine T_auto TT_ok rfl ?_
    refine T_drawL TT_ok [8] [0, 1, 2, 3, 4, 5, 6, 7, 8, 9] rfl rfl fun B0 H0 => ?_
    refine DJ_one 7 rfl (by kernel_rfl) (OJ_M TT_ok rfl rfl rfl rfl rfl rfl (SJ_dj ?_))
    refine DJ_onL TT_ok [8, 9] rfl ?_
    refine DJ_endA TT_ok rfl ?_
    refine T_view (V_fold 8 4 78 rfl rfl rfl rfl rfl rfl rfl) ?_
    refine T_view (V_open 8 4 80 rfl rfl rfl rfl rfl rfl) ?_
    refine T_view (V_fold 8 5 79 rfl rfl rfl rfl rfl rfl rfl) ?_
    refine T_view (V_open 8 5 81 rfl rfl rfl rfl rfl rfl) ?_
    refine T_ret TT_ok (()) [(8, some 56), (9, none), (10, none)] rfl rfl ?_ ?_ ?_
    · exact SVs.imp_refl _
    · exact ⟨⟨_, rfl, Ch.imp_refl _⟩, ⟨_, rfl, Ch.imp_refl _⟩, trivial⟩
    · trivial
  have hany : t.sets.any (atCell r s) = false := by
    cases h : t.sets.any (atCell r s) with
    | false => rfl
    | true => exact absurd ((any_idx (z := GSet.z)).2 h) e1
  refine T_auto TT_ok rfl ?_
  refine RJ_Q TT_ok (l7Read_q t (by omega) r s) rfl rfl rfl rfl rfl ?_
  refine T_condD rfl (fun e2 => ?_) (fun e2 => ?_)
  · have hany2 : t.reads.any (atNote r s) = false := by
      cases h : t.reads.any (atNote r s) with
      | false => rfl
      | true => have := (any_idx (z := GNote.z)).2 h; omega
    have hP := l8Primary_c c hb hok r hr
    refine T_auto TT_ok rfl ?_
    cases ha : (machAt c r.toNat 0).alive with
    | false =>
      rw [if_neg (by rw [ha]; simp)] at hP
      rw [show readR c t r s = (t, 0, 0, 6) from by unfold readR; rw [hany, hany2, ha]; rfl]
      refine RJ_C TT_ok (hP) rfl rfl (SVs.imp_refl _) (fun _ => rfl) rfl rfl rfl fun _ _ => ?_
      refine RJ_auto TT_ok rfl ?_
      refine T_cond rfl (fun _ => ?_) (fun e => by cases e)
      refine T_auto TT_ok rfl ?_
      refine T_view (V_fold 8 4 78 rfl rfl rfl rfl rfl rfl rfl) ?_
      refine T_view (V_open 8 4 80 rfl rfl rfl rfl rfl rfl) ?_
      refine T_view (V_fold 8 5 79 rfl rfl rfl rfl rfl rfl rfl) ?_
      refine T_view (V_open 8 5 81 rfl rfl rfl rfl rfl rfl) ?_
      refine T_ret TT_ok (()) [(8, some 56), (9, none), (10, none)] rfl rfl ?_ ?_ ?_
      · exact SVs.imp_refl _
      · exact ⟨⟨_, rfl, Ch.imp_refl _⟩, ⟨_, rfl, Ch.imp_refl _⟩, trivial⟩
      · trivial
    | true =>
      rw [if_pos ha] at hP
      refine RJ_C TT_ok (hP) rfl rfl (SVs.imp_refl _) (fun _ => rfl) rfl rfl rfl fun _ _ => ?_
      refine RJ_auto TT_ok rfl ?_
      refine T_condD rfl (fun e => absurd e (by omega)) (fun _ => ?_)
      have hhas := (hok.at (r := r.toNat) (k := 0) (by omega) (by omega)).2 ha
      rw [Int.toNat_of_nonneg hr.1] at hhas
      have hix := idxI_in (z := GCopy.z) ((any_idx (z := GCopy.z)).2 (show (machAt c r.toNat 0).copies.any (atB r) = true from hhas))
      have hix2 : 0 ≤ idxI (atB r) (machAt c r.toNat 0).copies ∧ idxI (atB r) (machAt c r.toNat 0).copies < (machAt c r.toNat 0).copies.length := ⟨(any_idx (z := GCopy.z)).2 hhas, by omega⟩
      obtain ⟨c1, c2, c3⟩ := cell_ok hok hr hs ha
      have hco := cellsOf_has hhas
      have hlen : ((machAt c r.toNat 0).copies.getD (idxI (atB r) (machAt c r.toNat 0).copies).toNat GCopy.z).cells.length = 6 := by rw [← hco]; exact c1
      have hcell : ((machAt c r.toNat 0).copies.getD (idxI (atB r) (machAt c r.toNat 0).copies).toNat GCopy.z).cells.getD s.toNat GCell.z = cellAt c r s := by rw [← hco]; rfl
      refine T_autoO TT_ok rfl ?_ ?_
      · exact ⟨⟨hs.1, by rw [hlen]; omega⟩, ⟨hix2.1, hix2.2⟩, ⟨hm.1, hm.2⟩, trivial⟩
      rw [hcell]
      refine RJ_Q TT_ok (spec_Locked_q _) rfl rfl rfl rfl rfl ?_
      refine T_cond rfl (fun e4 => ?_) (fun e4 => ?_)
      · rw [show readR c t r s = (t, 0, 0, 7) from by unfold readR; rw [hany, hany2, ha, e4]; rfl]
        refine T_auto TT_ok rfl ?_
        refine T_view (V_fold 8 4 78 rfl rfl rfl rfl rfl rfl rfl) ?_
        refine T_view (V_open 8 4 80 rfl rfl rfl rfl rfl rfl) ?_
        refine T_view (V_fold 8 5 79 rfl rfl rfl rfl rfl rfl rfl) ?_
        refine T_view (V_open 8 5 81 rfl rfl rfl rfl rfl rfl) ?_
        refine T_ret TT_ok (()) [(8, some 56), (9, none), (10, none)] rfl rfl ?_ ?_ ?_
        · exact SVs.imp_refl _
        · exact ⟨⟨_, rfl, Ch.imp_refl _⟩, ⟨_, rfl, Ch.imp_refl _⟩, trivial⟩
        · trivial
      have hN := noteAt_ok hok hr hs ha
      have hAM : addReadM t (noteAt c r s) = if (addRead' t (noteAt c r s)).2 = true then ((addRead' t (noteAt c r s)).1, true) else (GTx.z, false) := by
        unfold addReadM
        by_cases h2 : (addRead' t (noteAt c r s)).2 = true
        · rw [if_pos ⟨ht, hN, h2⟩, if_pos h2]
        · rw [if_neg fun h => h2 h.2.2, if_neg h2]
      refine T_auto TT_ok rfl ?_
      refine T_joinA (ι := Unit) (fun _ => [(16, .a (.p 16 0)), (17, vB (addReadM t (noteAt c r s)).2)]) (fun _ => [(16, .row (rowT (addReadM t (noteAt c r s)).1 161 162)), (161, arrC 5 cNote GNote.z (addReadM t (noteAt c r s)).1.reads), (162, arrC 5 cSet GSet.z (addReadM t (noteAt c r s)).1.sets)]) (fun _ => True) [] [] rfl rfl ?_ ?_
      · refine T_drawL TT_ok [] [0, 1, 2, 3, 4, 6, 7, 8, 9, 5, 10, 11, 12, 13, 14, 15, 16, 17, 18] rfl rfl fun B0 H0 => ?_
        refine DJ_Qi 5 (spec_Version_q _) rfl rfl rfl (SVs.imp_refl _) rfl ?_
        rw [show verI (cellAt c r s).head = (cellAt c r s).head.tdiv 4 from by unfold verI; rw [if_pos c2]]
        refine DJ_Qi 10 (spec_Used_q _) rfl rfl rfl (SVs.imp_refl _) rfl ?_
        refine DJ_onL TT_ok [11, 12, 13, 14, 15, 16, 17, 18] rfl ?_
        refine DJ_two 12 16 rfl rfl (by kernel_rfl) (DJ_Cc (Con.sw 901 161 (Con.sw 902 162 (spec_AddRead_m t hbt (noteAt c r s)))) rfl rfl (SVs.imp_refl _) (fun _ => rfl) rfl rfl rfl (fun _ _ => SJ_dj ?_)) (OJ_M TT_ok rfl rfl rfl rfl rfl rfl (SJ_dj ?_))
        · refine DJ_onL TT_ok [13, 14, 15, 16, 17, 18] rfl ?_
          refine DJ_one 16 rfl (by kernel_rfl) (OJ_M TT_ok rfl rfl rfl rfl rfl rfl (SJ_dj ?_))
          refine DJ_one 17 rfl (by kernel_rfl) (OJ_M TT_ok rfl rfl rfl rfl rfl rfl (SJ_dj ?_))
          refine DJ_onL TT_ok [18] rfl ?_
          refine DJ_endA TT_ok rfl ?_
          exact X_inv () trivial Nat.zero_lt_one (by repeat (first | exact trivial | refine And.intro ⟨_, rfl, SV.imp_refl _⟩ ?_)) (by repeat (first | exact trivial | refine And.intro ⟨_, rfl, Ch.imp_refl _⟩ ?_))
        · skip
          refine DJ_C 12 (Con.sw 901 161 (Con.sw 902 162 (spec_AddRead_m t hbt (noteAt c r s)))) rfl rfl rfl (SVs.imp_refl _) (fun _ => rfl) rfl rfl rfl fun _ _ => ?_
          refine DJ_onL TT_ok [13, 14, 15, 17, 18] rfl ?_
          refine DJ_one 17 rfl (by kernel_rfl) (OJ_M TT_ok rfl rfl rfl rfl rfl rfl (SJ_dj ?_))
          refine DJ_onL TT_ok [18] rfl ?_
          refine DJ_endA TT_ok rfl ?_
          exact X_inv () trivial Nat.zero_lt_one (by repeat (first | exact trivial | refine And.intro ⟨_, rfl, SV.imp_refl _⟩ ?_)) (by repeat (first | exact trivial | refine And.intro ⟨_, rfl, Ch.imp_refl _⟩ ?_))
      rintro ⟨⟩ _
      refine X_go TT_ok rfl ?_
      cases h2 : (addRead' t (noteAt c r s)).2 with
      | false =>
        rw [show addReadM t (noteAt c r s) = (GTx.z, false) from by rw [hAM, h2]; rfl]
        rw [show readR c t r s = (t, 0, 0, 9) from by unfold readR; rw [hany, hany2, ha, e4, h2]; rfl]
        refine T_cond rfl (fun _ => ?_) (fun e => by cases e)
        refine T_auto TT_ok rfl ?_
        refine T_view (V_fold 8 4 78 rfl rfl rfl rfl rfl rfl rfl) ?_
        refine T_view (V_open 8 4 80 rfl rfl rfl rfl rfl rfl) ?_
        refine T_view (V_fold 8 5 79 rfl rfl rfl rfl rfl rfl rfl) ?_
        refine T_view (V_open 8 5 81 rfl rfl rfl rfl rfl rfl) ?_
        refine T_ret TT_ok (()) [(8, some 56), (9, none), (10, none)] rfl rfl ?_ ?_ ?_
        · exact SVs.imp_refl _
        · exact ⟨⟨_, rfl, Ch.imp_refl _⟩, ⟨_, rfl, Ch.imp_refl _⟩, trivial⟩
        · trivial
      | true =>
        obtain ⟨g1, g2⟩ := idx_note (n := noteAt c r s) hany2 h2 hsN
        have g3 := (addRead_ok ht hN).1.1.2.2.2.2.2.1
        have g1 : 0 ≤ idxI (atNote r s) (addRead' t (noteAt c r s)).1.reads ∧ idxI (atNote r s) (addRead' t (noteAt c r s)).1.reads < (addRead' t (noteAt c r s)).1.reads.length := g1
        have g4 : (addRead' t (noteAt c r s)).1.sets = t.sets := addRead_sets _ _
        rw [show addReadM t (noteAt c r s) = ((addRead' t (noteAt c r s)).1, true) from by rw [hAM, h2]; rfl]
        rw [show readR c t r s = ((addRead' t (noteAt c r s)).1, (noteAt c r s).version, (noteAt c r s).value, freeC (noteAt c r s).used) from by unfold readR; rw [hany, hany2, ha, e4, h2]; rfl]
        refine T_cond rfl (fun e => by cases e) (fun _ => ?_)
        refine T_auto TT_ok rfl ?_
        refine RJ_Q TT_ok (l7Read_q (addRead' t (noteAt c r s)).1 (by omega) r s) rfl rfl rfl rfl rfl ?_
        unfold noteIn at g2
        rw [show (noteAt c r s).region = r from rfl, show (noteAt c r s).slot = s from rfl] at g2
        rw [g2]
        refine T_cond (b := !(noteAt c r s).used) rfl (fun e5 => ?_) (fun e5 => ?_)
        · rw [show (noteAt c r s).used = false from by simpa using e5, show freeC false = 8 from rfl]
          refine T_auto TT_ok rfl ?_
          refine T_view (V_fold 8 4 161 rfl rfl rfl rfl rfl rfl rfl) ?_
          refine T_view (V_open 8 4 80 rfl rfl rfl rfl rfl rfl) ?_
          refine T_view (V_fold 8 5 162 rfl rfl rfl rfl rfl rfl rfl) ?_
          refine T_view (V_open 8 5 81 rfl rfl rfl rfl rfl rfl) ?_
          refine T_ret TT_ok (()) [(8, some 56), (9, none), (10, none)] rfl rfl ?_ ?_ ?_
          · exact SVs.imp_refl _
          · exact ⟨⟨_, rfl, Ch.imp_refl _⟩, ⟨_, rfl, Ch.imp_refl _⟩, trivial⟩
          · trivial
        rw [show (noteAt c r s).used = true from by simpa using e5, show freeC true = 0 from rfl]
        refine T_auto TT_ok rfl ?_
        refine T_drawL TT_ok [8] [0, 1, 2, 3, 4, 5, 6, 7, 8, 9] rfl rfl fun B0 H0 => ?_
        refine DJ_one 7 rfl (by kernel_rfl) (OJ_M TT_ok rfl rfl rfl rfl rfl rfl (SJ_dj ?_))
        refine DJ_onL TT_ok [8, 9] rfl ?_
        refine DJ_endA TT_ok rfl ?_
        rw [g2]
        refine T_view (V_fold 8 4 161 rfl rfl rfl rfl rfl rfl rfl) ?_
        refine T_view (V_open 8 4 80 rfl rfl rfl rfl rfl rfl) ?_
        refine T_view (V_fold 8 5 162 rfl rfl rfl rfl rfl rfl rfl) ?_
        refine T_view (V_open 8 5 81 rfl rfl rfl rfl rfl rfl) ?_
        refine T_ret TT_ok (()) [(8, some 56), (9, none), (10, none)] rfl rfl ?_ ?_ ?_
        · exact SVs.imp_refl _
        · exact ⟨⟨_, rfl, Ch.imp_refl _⟩, ⟨_, rfl, Ch.imp_refl _⟩, trivial⟩
        · trivial
  have hany2 : t.reads.any (atNote r s) = true := (any_idx (z := GNote.z)).1 (by omega)
  have hin := idxI_in (z := GNote.z) (show 0 ≤ idxI (atNote r s) t.reads by omega)
  have hin2 : 0 ≤ idxI (atNote r s) t.reads ∧ idxI (atNote r s) t.reads < t.reads.length := ⟨by omega, by omega⟩
  rw [show readR c t r s = (t, (noteIn t r s).version, (noteIn t r s).value, freeC (noteIn t r s).used) from by unfold readR; rw [hany, hany2]; rfl]
  refine T_auto TT_ok rfl ?_
  refine T_cond (b := !(noteIn t r s).used) rfl (fun e5 => ?_) (fun e5 => ?_)
  · rw [show (noteIn t r s).used = false from by simpa using e5, show freeC false = 8 from rfl]
    refine T_auto TT_ok rfl ?_
    refine T_view (V_fold 8 4 78 rfl rfl rfl rfl rfl rfl rfl) ?_
    refine T_view (V_open 8 4 80 rfl rfl rfl rfl rfl rfl) ?_
    refine T_view (V_fold 8 5 79 rfl rfl rfl rfl rfl rfl rfl) ?_
    refine T_view (V_open 8 5 81 rfl rfl rfl rfl rfl rfl) ?_
    refine T_ret TT_ok (()) [(8, some 56), (9, none), (10, none)] rfl rfl ?_ ?_ ?_
    · exact SVs.imp_refl _
    · exact ⟨⟨_, rfl, Ch.imp_refl _⟩, ⟨_, rfl, Ch.imp_refl _⟩, trivial⟩
    · trivial
  rw [show (noteIn t r s).used = true from by simpa using e5, show freeC true = 0 from rfl]
  refine T_auto TT_ok rfl ?_
  refine T_drawL TT_ok [8] [0, 1, 2, 3, 4, 5, 6, 7, 8, 9] rfl rfl fun B0 H0 => ?_
  refine DJ_one 7 rfl (by kernel_rfl) (OJ_M TT_ok rfl rfl rfl rfl rfl rfl (SJ_dj ?_))
  refine DJ_onL TT_ok [8, 9] rfl ?_
  refine DJ_endA TT_ok rfl ?_
  refine T_view (V_fold 8 4 78 rfl rfl rfl rfl rfl rfl rfl) ?_
  refine T_view (V_open 8 4 80 rfl rfl rfl rfl rfl rfl) ?_
  refine T_view (V_fold 8 5 79 rfl rfl rfl rfl rfl rfl rfl) ?_
  refine T_view (V_open 8 5 81 rfl rfl rfl rfl rfl rfl) ?_
  refine T_ret TT_ok (()) [(8, some 56), (9, none), (10, none)] rfl rfl ?_ ?_ ?_
  · exact SVs.imp_refl _
  · exact ⟨⟨_, rfl, Ch.imp_refl _⟩, ⟨_, rfl, Ch.imp_refl _⟩, trivial⟩
  · trivial
theorem spec_Read_m (c : GCluster) (hb : D.bds bigN (cCluster c)) (id r s : Int) : MkCII Tryz.prog 15 [vR (cCluster c), vI id, vI r, vI s] (readM c id r s).1 (readM c id r s).2.1 (readM c id r s).2.2 := by
  have b3 : c.txs.length ≤ 1048576 := hb.2.2.2.2.1.1
  refine con_enter Tryz.func15 rfl rfl rfl fun B0 r_ D_ w0 => ?_
  refine T_auto1 TT_ok rfl ?_
  refine T_freeze 4 rfl rfl rfl rfl (fun _ => rfl) (fun _ => rfl) fun r_ => ?_
  refine T_auto TT_ok rfl ?_
  refine RJ_C TT_ok (l9Runs_c c hb id) rfl rfl (SVs.imp_refl _) (fun _ => rfl) rfl rfl rfl fun _ _ => ?_
  refine RJ_auto TT_ok rfl ?_
  by_cases hok : ClusOk c
  · by_cases h0 : runC c id = 0
    · have hge := (live_of_run h0).2.2
      have hlt := findI_lt (c := c) (id := id)
      have hin := findI_in hge
      have ht := hok.tx hin.1
      rw [show readM c id r s = (putC c id (read9 c (txAt c id) r s).1, (read9 c (txAt c id) r s).2.1, (read9 c (txAt c id) r s).2.2) from by
        unfold readM read9
        rw [if_pos hok, if_pos h0]
        cases cellB c r s with
        | true =>
          have hp : putC c id (txAt c id) = c := by
            unfold putC
            have : c.txs.set (findI c id).toNat (txAt c id) = c.txs := by
              unfold txAt
              rw [show c.txs.getD (findI c id).toNat GTx.z = c.txs[(findI c id).toNat]'hin.1 from by simp [hin.1]]
              exact List.set_getElem_self hin.1
            rw [this]
          show (c, (0 : Int), (5 : Int)) = (putC c id (txAt c id), 0, 5)
          rw [hp]
        | false => rfl]
      rw [show runI c id = (findI c id, 0) from by unfold runI; rw [if_pos hok, if_pos h0]]
      refine T_cond rfl (fun e => by cases e) (fun _ => ?_)
      refine T_auto TT_ok rfl ?_
      refine RJ_C TT_ok (Con.sw 901 6001 (Con.sw 902 6002 (Con.sw 903 6003 (l8Copy_m c hb)))) rfl rfl (SVs.imp_refl _) (fun _ => rfl) rfl rfl rfl fun _ _ => ?_
      refine RJ_auto TT_ok rfl ?_
      refine T_view (V_carve 6003 (findI c id) 77 rfl rfl rfl rfl rfl rfl ⟨hge, hlt⟩) ?_
      refine T_view (V_open 77 4 78 rfl rfl rfl rfl rfl rfl) ?_
      refine T_view (V_open 77 5 79 rfl rfl rfl rfl rfl rfl) ?_
      refine T_joinA (ι := Unit) (fun _ => [(16, .a (.p 16 0)), (17, vI (read9 c (txAt c id) r s).2.1), (12, vI (read9 c (txAt c id) r s).2.2)]) (fun _ => [(16, .row (rowT (read9 c (txAt c id) r s).1 80 81)), (80, arrC 5 cNote GNote.z (read9 c (txAt c id) r s).1.reads), (81, arrC 5 cSet GSet.z (read9 c (txAt c id) r s).1.sets)]) (fun _ => True) [78, 79] [] rfl rfl ?_ ?_
      · refine T_drawL TT_ok [78, 79] [0, 1, 2, 3, 4, 6, 7, 5, 8, 9, 10, 11, 12, 13, 14, 15, 16] rfl rfl fun B0 H0 => ?_
        refine DJ_v0 (V_pe0 41 rfl rfl rfl) ?_
        refine DJ_onL TT_ok [5, 8, 9, 10, 11, 12, 13, 14, 15, 16] rfl ?_
        refine DJ_two 8 13 rfl rfl (by kernel_rfl) (DJ_Cc (l9Read_k c hb hok (txAt c id) ht r s) rfl rfl (SVs.imp_refl _) (fun _ => rfl) rfl rfl rfl (fun _ _ => SJ_dj ?_)) (OJ_M TT_ok rfl rfl rfl rfl rfl rfl (SJ_dj ?_))
        · refine DJ_onL TT_ok [9, 10, 11, 12, 13, 14, 15, 16] rfl ?_
          refine DJ_one 13 rfl (by kernel_rfl) (OJ_M TT_ok rfl rfl rfl rfl rfl rfl (SJ_dj ?_))
          refine DJ_one 14 rfl (by kernel_rfl) (OJ_M TT_ok rfl rfl rfl rfl rfl rfl (SJ_dj ?_))
          refine DJ_onL TT_ok [15, 16] rfl ?_
          refine DJ_endA TT_ok rfl ?_
          exact X_inv () trivial Nat.zero_lt_one (by repeat (first | exact trivial | refine And.intro ⟨_, rfl, SV.imp_refl _⟩ ?_)) (by repeat (first | exact trivial | refine And.intro ⟨_, rfl, Ch.imp_refl _⟩ ?_))
        · skip
          refine DJ_C 8 (l9Read_k c hb hok (txAt c id) ht r s) rfl rfl rfl (SVs.imp_refl _) (fun _ => rfl) rfl rfl rfl fun _ _ => ?_
          refine DJ_onL TT_ok [9, 10, 11, 12, 14, 15, 16] rfl ?_
          refine DJ_one 14 rfl (by kernel_rfl) (OJ_M TT_ok rfl rfl rfl rfl rfl rfl (SJ_dj ?_))
          refine DJ_onL TT_ok [15, 16] rfl ?_
          refine DJ_endA TT_ok rfl ?_
          exact X_inv () trivial Nat.zero_lt_one (by repeat (first | exact trivial | refine And.intro ⟨_, rfl, SV.imp_refl _⟩ ?_)) (by repeat (first | exact trivial | refine And.intro ⟨_, rfl, Ch.imp_refl _⟩ ?_))
      rintro ⟨⟩ _
      refine X_go TT_ok rfl ?_
      refine RJ_view (V_pe 53 rfl rfl rfl) ?_
      refine RJ_auto TT_ok rfl ?_
      refine T_view (V_fold 77 4 80 rfl rfl rfl rfl rfl rfl rfl) ?_
      refine T_view (V_fold 77 5 81 rfl rfl rfl rfl rfl rfl rfl) ?_
      refine T_view (V_uncarve 6003 77 rfl rfl rfl rfl rfl rfl rfl) ?_
      refine T_view (V_sw 6001 901) ?_
      refine T_view (V_sw 6002 902) ?_
      refine T_view (V_sw 6003 903) ?_
      refine T_ret TT_ok (()) [(8, some 32), (9, none), (10, none)] rfl rfl ?_ ?_ ?_
      · exact SVs.imp_refl _
      · exact ⟨⟨_, rfl, Ch.imp_refl _⟩, ⟨_, rfl, Ch.imp_refl _⟩, ⟨_, rfl, imp_set (OwnI.refl _)⟩, trivial⟩
      · trivial
    · rw [show readM c id r s = (c, 0, runC c id) from by unfold readM; rw [if_pos hok, if_neg h0]]
      rw [show runI c id = (-1, runC c id) from by unfold runI; rw [if_pos hok, if_neg h0]]
      refine T_condN rfl (fun e => ?_) (fun e => absurd e h0)
      refine T_auto TT_ok rfl ?_
      have h1 : runC c id ≠ 1 := by
        unfold runC
        cases decide (findI c id < 0) <;> cases homeUp c id <;> cases (txAt c id).phase == 1 <;> decide
      refine RJ_C TT_ok (l9No_m c hb (runC c id) h1) rfl rfl (SVs.imp_refl _) (fun _ => rfl) rfl rfl rfl fun _ _ => ?_
      refine RJ_auto TT_ok rfl ?_
      refine T_ret TT_ok (()) [(8, some 32), (9, none), (10, none)] rfl rfl ?_ ?_ ?_
      · exact SVs.imp_refl _
      · exact ⟨⟨_, rfl, Ch.imp_refl _⟩, ⟨_, rfl, Ch.imp_refl _⟩, ⟨_, rfl, Ch.imp_refl _⟩, trivial⟩
      · trivial
  · rw [show readM c id r s = (GCluster.z, 0, 1) from if_neg hok]
    rw [show runI c id = (-1, 1) from if_neg hok]
    refine T_cond rfl (fun _ => ?_) (fun e => by cases e)
    refine T_auto TT_ok rfl ?_
    refine RJ_C TT_ok (l9No1_m c) rfl rfl (SVs.imp_refl _) (fun _ => rfl) rfl rfl rfl fun _ _ => ?_
    refine RJ_auto TT_ok rfl ?_
    refine T_ret TT_ok (()) [(8, some 32), (9, none), (10, none)] rfl rfl ?_ ?_ ?_
    · exact SVs.imp_refl _
    · exact ⟨⟨_, rfl, Ch.imp_refl _⟩, ⟨_, rfl, Ch.imp_refl _⟩, ⟨_, rfl, Ch.imp_refl _⟩, trivial⟩
    · trivial
end Go.Proofs.YtpfcfepbhdkpdaaGreat
