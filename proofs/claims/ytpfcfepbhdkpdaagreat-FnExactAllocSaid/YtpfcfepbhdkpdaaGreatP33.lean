
/-
  Alloc, on the specification's side.
-/
import Derived.Test.YtpfcfepbhdkpdaaGreatP31
import Derived.Test.YtpfcfepbhdkpdaaGreatL3
namespace Go.Proofs.YtpfcfepbhdkpdaaGreat
open Go Go.RowKit
set_option linter.unusedVariables false
set_option linter.unusedSimpArgs false
set_option maxRecDepth 4000

theorem spec_FreeSlot_q (xs : List GCell) (hx : cellsB xs = true) (but : List Int) (hl : but.length ≤ 1048576) : Ans Tryz.prog 51 [] [vL 2 cCell GCell.z xs, vL 1 cInt 0 but] [] (vI (freeI xs fun s => decide (s ∈ but))) := by
  have h6 := cellsB_len hx
  refine con_enter Tryz.func51 rfl rfl rfl fun B0 r_ D_ w0 => ?_
  refine T_auto TT_ok rfl ?_
  refine RJ_Q TT_ok (spec_CellsOk_q xs) rfl rfl rfl rfl rfl ?_
  refine T_condX rfl (fun e => by rw [hx] at e; cases e) (fun _ => ?_)
  refine T_auto TT_ok rfl ?_
  refine T_loopA (ι := Nat) (fun i => [(5, vI i)]) (fun _ => []) (fun i => i ≤ 6 ∧ ∀ j, j < i → freeP xs (fun s => decide (s ∈ but)) j = false) (fun i => 6 - i) 0 [] [] rfl rfl ⟨Nat.zero_le _, fun j hj => absurd hj (Nat.not_lt_zero _)⟩ (by repeat (first | exact trivial | refine And.intro ⟨_, rfl, SV.imp_refl _⟩ ?_)) (by repeat (first | exact trivial | refine And.intro ⟨_, rfl, Ch.imp_refl _⟩ ?_)) ?_
  intro i ⟨h1, h2⟩
  refine T_auto TT_ok rfl ?_
  refine T_condD rfl (fun e => ?_) (fun e => ?_)
  · have hi : i < 6 := by omega
    refine T_auto TT_ok rfl ?_
    refine RJ_Q TT_ok (spec_Used_q _) rfl rfl rfl rfl rfl ?_
    refine RJ_Q TT_ok (spec_Locked_q _) rfl rfl rfl rfl rfl ?_
    refine RJ_Q TT_ok (l3Has_q but hl _) rfl rfl rfl rfl rfl ?_
    refine T_cond (b := freeP xs (fun s => decide (s ∈ but)) i) rfl (fun e2 => ?_) (fun e2 => ?_)
    · refine T_auto TT_ok rfl ?_
      exact T_ansI TT_ok [(4, none)] rfl rfl ((freeI_at hi h2 e2).symm)
    · refine T_auto TT_ok rfl ?_
      exact X_inv (i + 1) ⟨hi, before_succ h2 e2⟩ (by omega) (by repeat (first | exact trivial | refine And.intro ⟨_, rfl, SV.imp_refl _⟩ ?_)) (by repeat (first | exact trivial | refine And.intro ⟨_, rfl, Ch.imp_refl _⟩ ?_))
  · refine T_auto TT_ok rfl ?_
    exact T_ansI TT_ok [(4, none)] rfl rfl ((freeI_no fun j hj => h2 j (by omega)).symm)
theorem taken_idx {t : GTx} {r s : Int} : (bif decide (idxI (atNote r s) t.reads ≥ 0) then true else decide (idxI (atCell r s) t.sets ≥ 0)) = takenB t r s := by
  unfold takenB
  have h1 : decide (idxI (atNote r s) t.reads ≥ 0) = t.reads.any (atNote r s) := by
    rw [Bool.eq_iff_iff, decide_eq_true_iff]; exact any_idx (z := GNote.z)
  have h2 : decide (idxI (atCell r s) t.sets ≥ 0) = t.sets.any (atCell r s) := by
    rw [Bool.eq_iff_iff, decide_eq_true_iff]; exact any_idx (z := GSet.z)
  rw [h1, h2]
/-- the slots that are taken, in order -/
def butS (t : GTx) (r : Int) (n : Nat) : List Int := ((List.range n).filter fun s : Nat => takenB t r s).map fun s : Nat => (s : Int)
theorem butS_len (t : GTx) (r : Int) (n : Nat) : (butS t r n).length ≤ n := by
  unfold butS
  rw [List.length_map]
  exact Nat.le_trans (List.length_filter_le _ _) (by simp)
theorem mem_butS {t : GTx} {r : Int} {s : Nat} (hs : s < 6) : decide ((s : Int) ∈ butS t r 6) = takenB t r s := by
  rw [Bool.eq_iff_iff, decide_eq_true_iff]
  unfold butS
  rw [List.mem_map]
  constructor
  · rintro ⟨n, h1, h2⟩
    have : n = s := by omega
    subst this
    exact (List.mem_filter.1 h1).2
  · intro h
    exact ⟨s, List.mem_filter.2 ⟨by simpa using hs, h⟩, rfl⟩
theorem butS_succ (t : GTx) (r : Int) (n : Nat) : butS t r (n + 1) = if takenB t r n then butS t r n ++ [(n : Int)] else butS t r n := by
  unfold butS
  rw [List.range_succ, List.filter_append, List.map_append]
  by_cases h : takenB t r n
  · rw [if_pos h]; simp [h]
  · rw [if_neg h]; simp [h]
theorem spec_Alloc_m (c : GCluster) (hb : D.bds bigN (cCluster c)) (id r : Int) : MkCII Tryz.prog 17 [vR (cCluster c), vI id, vI r] (allocM c id r).1 (allocM c id r).2.1 (allocM c id r).2.2 := by
  have b1 : c.places.length ≤ 1048576 := hb.2.2.1.1
  have b3 : c.txs.length ≤ 1048576 := hb.2.2.2.2.1.1
  refine con_enter Tryz.func17 rfl rfl rfl fun B0 r_ D_ w0 => ?_
  refine T_auto1 TT_ok rfl ?_
  refine T_freeze 3 rfl rfl rfl rfl (fun _ => rfl) (fun _ => rfl) fun r_ => ?_
  refine T_auto TT_ok rfl ?_
  refine RJ_C TT_ok (l9Runs_c c hb id) rfl rfl (SVs.imp_refl _) (fun _ => rfl) rfl rfl rfl fun _ _ => ?_
  refine RJ_auto TT_ok rfl ?_
  by_cases hok : ClusOk c
  · by_cases h0 : runC c id = 0
    · have hge := (live_of_run h0).2.2
      have hlt := findI_lt (c := c) (id := id)
      have hin := findI_in hge
      have ht := hok.tx hin.1
      have hl1 := ht.1.2.2.2.2.2.1
      have hl2 := ht.1.2.2.2.2.2.2
      have hsN := sortedN_of ht.2.1
      rw [show allocM c id r = if allocN c (txAt c id) r = 0 then (putC c id (allocT c (txAt c id) r), slotF c (txAt c id) r, 0) else (c, -1, allocN c (txAt c id) r) from by unfold allocM; rw [if_pos hok, if_pos h0]]
      rw [show runI c id = (findI c id, 0) from by unfold runI; rw [if_pos hok, if_pos h0]]
      refine RJ_Q TT_ok (spec_l1In_q _ _ _) rfl rfl rfl rfl rfl ?_
      refine T_cond (b := !inB r 0 ((c.places.length : Int) - 1)) rfl (fun e => ?_) (fun e => ?_)
      · have hN : allocN c (txAt c id) r = 5 := by unfold allocN; rw [e]; rfl
        rw [if_neg (by rw [hN]; decide), hN]
        refine T_auto TT_ok rfl ?_
        refine T_cond rfl (fun _ => ?_) (fun e => by cases e)
        refine T_auto TT_ok rfl ?_
        refine RJ_C TT_ok (l9No_m c hb 5 (by decide)) rfl rfl (SVs.imp_refl _) (fun _ => rfl) rfl rfl rfl fun _ _ => ?_
        refine RJ_auto TT_ok rfl ?_
        refine T_ret TT_ok (()) [(6, some 32), (7, none), (8, none)] rfl rfl ?_ ?_ ?_
        · exact SVs.imp_refl _
        · exact ⟨⟨_, rfl, Ch.imp_refl _⟩, ⟨_, rfl, Ch.imp_refl _⟩, ⟨_, rfl, Ch.imp_refl _⟩, trivial⟩
        · trivial
      have hr := guard_in e
      have hpl := hok.pl (r := r.toNat) (by omega)
      have hm := (hok.at (r := r.toNat) (k := 0) (by omega) (by omega)).1
      have hP := l8Primary_c c hb hok r hr
      refine T_auto TT_ok rfl ?_
      refine T_cond rfl (fun e => by cases e) (fun _ => ?_)
      refine T_auto TT_ok rfl ?_
      cases ha : (machAt c r.toNat 0).alive with
      | false =>
        rw [if_neg (by rw [ha]; simp)] at hP
        have hN : allocN c (txAt c id) r = 6 := by unfold allocN; rw [e, ha]; rfl
        rw [if_neg (by rw [hN]; decide), hN]
        refine RJ_C TT_ok (hP) rfl rfl (SVs.imp_refl _) (fun _ => rfl) rfl rfl rfl fun _ _ => ?_
        refine RJ_auto TT_ok rfl ?_
        refine T_cond rfl (fun _ => ?_) (fun e => by cases e)
        refine T_auto TT_ok rfl ?_
        refine RJ_C TT_ok (l8Copy_m c hb) rfl rfl (SVs.imp_refl _) (fun _ => rfl) rfl rfl rfl fun _ _ => ?_
        refine RJ_auto TT_ok rfl ?_
        refine T_ret TT_ok (()) [(6, some 32), (7, none), (8, none)] rfl rfl ?_ ?_ ?_
        · exact SVs.imp_refl _
        · exact ⟨⟨_, rfl, Ch.imp_refl _⟩, ⟨_, rfl, Ch.imp_refl _⟩, ⟨_, rfl, Ch.imp_refl _⟩, trivial⟩
        · trivial
      | true =>
        rw [if_pos ha] at hP
        have hhas := (hok.at (r := r.toNat) (k := 0) (by omega) (by omega)).2 ha
        rw [Int.toNat_of_nonneg hr.1] at hhas
        have hix := idxI_in (z := GCopy.z) ((any_idx (z := GCopy.z)).2 (show (machAt c r.toNat 0).copies.any (atB r) = true from hhas))
        have hix2 : 0 ≤ idxI (atB r) (machAt c r.toNat 0).copies ∧ idxI (atB r) (machAt c r.toNat 0).copies < (machAt c r.toNat 0).copies.length := ⟨(any_idx (z := GCopy.z)).2 hhas, by omega⟩
        have hco := cellsOf_has hhas
        have hcB := (cellsOf_len (hok.mach (r := r.toNat) (k := 0) (by omega) (by omega)) hhas).2
        have hA : allocN c (txAt c id) r = bif decide (slotF c (txAt c id) r < 0) then 9 else bif !(addRead' (txAt c id) (noteF c (txAt c id) r)).2 then 9 else bif !setB (setF c (txAt c id) r) then 9 else bif !(addSet' (addRead' (txAt c id) (noteF c (txAt c id) r)).1 (setF c (txAt c id) r)).2 then 9 else 0 := by
          unfold allocN; rw [e, ha]; rfl
        refine RJ_C TT_ok (hP) rfl rfl (SVs.imp_refl _) (fun _ => rfl) rfl rfl rfl fun _ _ => ?_
        refine RJ_auto TT_ok rfl ?_
        refine T_condD rfl (fun e => absurd e (by omega)) (fun _ => ?_)
        have hin2 : 0 ≤ findI c id ∧ findI c id < c.txs.length := ⟨hge, hlt⟩
        refine T_auto TT_ok rfl ?_
        refine RJ_bs TT_ok 90 (fun i => cInt (([] : List Int).getD i 0)) rfl rfl rfl rfl rfl rfl rfl (fun i hi => absurd hi (Nat.not_lt_zero _)) (mu1 := []) rfl rfl rfl ?_
        refine RJ_auto TT_ok rfl ?_
        refine T_loopA (ι := Nat) (fun i => [(17, vI i), (16, .a (.g 90))]) (fun i => [(90, arrC 1 cInt 0 (butS (txAt c id) r i))]) (fun i => i ≤ 6) (fun i => 6 - i) 0 [90] [90] rfl rfl (Nat.zero_le _) (by repeat (first | exact trivial | refine And.intro ⟨_, rfl, SV.imp_refl _⟩ ?_)) (by repeat (first | exact trivial | refine And.intro ⟨_, rfl, Ch.imp_refl _⟩ ?_)) ?_
        intro i h1
        refine T_auto TT_ok rfl ?_
        refine T_condD rfl (fun e2 => ?_) (fun e2 => ?_)
        · have hi : i < 6 := by omega
          have hle := butS_len (txAt c id) r i
          refine T_auto TT_ok rfl ?_
          refine RJ_Q TT_ok (l7Read_q (txAt c id) (Nat.le_trans hl1 (by decide)) r i) rfl rfl rfl rfl rfl ?_
          refine RJ_Q TT_ok (l7Set_q (txAt c id) (Nat.le_trans hl2 (by decide)) r i) rfl rfl rfl rfl rfl ?_
          rw [taken_idx]
          refine T_cond (b := takenB (txAt c id) r i) rfl (fun e3 => ?_) (fun e3 => ?_)
          · refine T_auto TT_ok rfl ?_
            refine RJ_bs TT_ok 85 (fun _ => cInt (i : Int)) rfl rfl rfl rfl rfl rfl rfl (fun i hi => by rcases i with _ | i <;> first | rfl | omega) (mu1 := []) rfl rfl rfl ?_
            refine RJ_auto TT_ok rfl ?_
            refine RJ_appM TT_ok 90 85 86 rfl rfl rfl rfl rfl rfl rfl rfl rfl rfl rfl rfl ⟨by show ((butS (txAt c id) r i).length + 1) * 8 ≤ _; omega, by unfold maxL; omega⟩ ?_
            refine RJ_auto TT_ok rfl ?_
            refine X_view (V_sw 90 86) ?_
            exact X_inv (i + 1) hi (by omega) (by repeat (first | exact trivial | refine And.intro ⟨_, rfl, SV.imp_refl _⟩ ?_)) ⟨⟨_, rfl, imp_app1 (x := (i : Int)) (by rw [butS_succ, if_pos e3]) rfl⟩, (by repeat (first | exact trivial | refine And.intro ⟨_, rfl, Ch.imp_refl _⟩ ?_))⟩
          · refine T_auto TT_ok rfl ?_
            exact X_inv (i + 1) hi (by omega) (by repeat (first | exact trivial | refine And.intro ⟨_, rfl, SV.imp_refl _⟩ ?_)) ⟨⟨_, rfl, imp_list (by rw [butS_succ, if_neg (by rw [e3]; simp)])⟩, (by repeat (first | exact trivial | refine And.intro ⟨_, rfl, Ch.imp_refl _⟩ ?_))⟩
        have hi : i = 6 := by omega
        subst hi
        have hble := butS_len (txAt c id) r 6
        refine T_auto TT_ok rfl ?_
        refine RJ_Q TT_ok (spec_FreeSlot_q _ (by rw [← hco]; exact hcB) (butS (txAt c id) r 6) (by omega)) rfl rfl rfl rfl rfl ?_
        rw [show freeI _ (fun s => decide (s ∈ butS (txAt c id) r 6)) = slotF c (txAt c id) r from by
          unfold slotF
          rw [hco]
          exact freeI_congr fun s hs => mem_butS hs]
        refine T_condD rfl (fun e4 => ?_) (fun e4 => ?_)
        · have hN : allocN c (txAt c id) r = 9 := by rw [hA, decide_eq_true e4]; rfl
          rw [if_neg (by rw [hN]; decide), hN]
          refine T_auto TT_ok rfl ?_
          refine RJ_C TT_ok (l8Copy_m c hb) rfl rfl (SVs.imp_refl _) (fun _ => rfl) rfl rfl rfl fun _ _ => ?_
          refine RJ_auto TT_ok rfl ?_
          refine T_ret TT_ok (()) [(6, some 32), (7, none), (8, none)] rfl rfl ?_ ?_ ?_
          · exact SVs.imp_refl _
          · exact ⟨⟨_, rfl, Ch.imp_refl _⟩, ⟨_, rfl, Ch.imp_refl _⟩, ⟨_, rfl, Ch.imp_refl _⟩, trivial⟩
          · trivial
        rw [decide_eq_false e4] at hA
        have hs : 0 ≤ slotF c (txAt c id) r ∧ slotF c (txAt c id) r ≤ 5 := by
          refine ⟨by omega, ?_⟩
          unfold slotF
          rcases freeI_in (xs := cellsOf (machAt c r.toNat 0) r) (b := takenB (txAt c id) r) with ⟨h1, _⟩ | ⟨i, h1, h2, _⟩ <;> omega
        obtain ⟨c1, c2, c3⟩ := cell_ok hok hr hs ha
        have hh := headB_iff.1 c2
        have hv : 0 ≤ (cellAt c r (slotF c (txAt c id) r)).head.tdiv 4 ∧ (cellAt c r (slotF c (txAt c id) r)).head.tdiv 4 ≤ 1000000 := by
          rw [Int.tdiv_eq_ediv_of_nonneg hh.1]; omega
        have hlen : 0 ≤ slotF c (txAt c id) r ∧ slotF c (txAt c id) r < ((machAt c r.toNat 0).copies.getD (idxI (atB r) (machAt c r.toNat 0).copies).toNat GCopy.z).cells.length := by rw [← hco, c1]; omega
        have hcell : ((machAt c r.toNat 0).copies.getD (idxI (atB r) (machAt c r.toNat 0).copies).toNat GCopy.z).cells.getD (slotF c (txAt c id) r).toNat GCell.z = cellAt c r (slotF c (txAt c id) r) := by rw [← hco]; rfl
        refine T_auto TT_ok rfl ?_
        rw [hcell]
        refine RJ_Q TT_ok (spec_Version_q _) rfl rfl rfl rfl rfl ?_
        rw [show verI (cellAt c r (slotF c (txAt c id) r)).head = verF c (txAt c id) r from by unfold verF verI; rw [if_pos c2]]
        have hNB : noteB (noteF c (txAt c id) r) = true := by
          have h6 := hok.2.1.1.2
          unfold noteB noteF
          rw [inB_iff.2 (show (0 : Int) ≤ r ∧ r ≤ 5 from by omega), inB_iff.2 (show (0 : Int) ≤ slotF c (txAt c id) r ∧ slotF c (txAt c id) r ≤ 5 from hs)]
          dsimp only
          rw [inB_iff.2 (show (0 : Int) ≤ verF c (txAt c id) r ∧ verF c (txAt c id) r ≤ 1000000 from hv)]
          rfl
        have hbt : D.bds bigN (cTx (txAt c id)) := bd_Tx _ (Nat.le_trans (txOk_w ht) (by decide))
        refine RJ_C TT_ok (Con.sw 901 161 (Con.sw 902 162 (spec_AddRead_m (txAt c id) hbt (noteF c (txAt c id) r)))) rfl rfl (SVs.imp_refl _) (fun _ => rfl) rfl rfl rfl fun _ _ => ?_
        refine RJ_auto TT_ok rfl ?_
        cases h1 : (addRead' (txAt c id) (noteF c (txAt c id) r)).2 with
        | false =>
          have hN : allocN c (txAt c id) r = 9 := by rw [hA, h1]; rfl
          rw [if_neg (by rw [hN]; decide), hN]
          rw [show addReadM (txAt c id) (noteF c (txAt c id) r) = (GTx.z, false) from by unfold addReadM; rw [if_neg fun h => by rw [h1] at h; cases h.2.2]]
          refine T_cond rfl (fun _ => ?_) (fun e => by cases e)
          refine T_auto TT_ok rfl ?_
          refine RJ_C TT_ok (l8Copy_m c hb) rfl rfl (SVs.imp_refl _) (fun _ => rfl) rfl rfl rfl fun _ _ => ?_
          refine RJ_auto TT_ok rfl ?_
          refine T_ret TT_ok (()) [(6, some 32), (7, none), (8, none)] rfl rfl ?_ ?_ ?_
          · exact SVs.imp_refl _
          · exact ⟨⟨_, rfl, Ch.imp_refl _⟩, ⟨_, rfl, Ch.imp_refl _⟩, ⟨_, rfl, Ch.imp_refl _⟩, trivial⟩
          · trivial
        | true =>
          rw [h1] at hA
          rw [show addReadM (txAt c id) (noteF c (txAt c id) r) = ((addRead' (txAt c id) (noteF c (txAt c id) r)).1, true) from by unfold addReadM; rw [if_pos ⟨ht, hNB, h1⟩]]
          have ht1 := (addRead_ok ht hNB).1
          have hbt1 : D.bds bigN (cTx (addRead' (txAt c id) (noteF c (txAt c id) r)).1) := bd_Tx _ (Nat.le_trans (txOk_w ht1) (by decide))
          refine T_cond rfl (fun e => by cases e) (fun _ => ?_)
          refine T_auto TT_ok rfl ?_
          refine RJ_C TT_ok (Con.sw 901 171 (Con.sw 902 172 (spec_AddSet_m (addRead' (txAt c id) (noteF c (txAt c id) r)).1 hbt1 (setF c (txAt c id) r)))) rfl rfl (SVs.imp_refl _) (fun _ => rfl) rfl rfl rfl fun _ _ => ?_
          refine RJ_auto TT_ok rfl ?_
          by_cases h2 : setB (setF c (txAt c id) r) = true ∧ (addSet' (addRead' (txAt c id) (noteF c (txAt c id) r)).1 (setF c (txAt c id) r)).2 = true
          · have hN : allocN c (txAt c id) r = 0 := by rw [hA, h2.1, h2.2]; rfl
            rw [if_pos hN]
            rw [show addSetM (addRead' (txAt c id) (noteF c (txAt c id) r)).1 (setF c (txAt c id) r) = (allocT c (txAt c id) r, true) from by unfold addSetM; rw [if_pos ⟨ht1, h2.1, h2.2⟩]; rfl]
            refine T_cond rfl (fun e => by cases e) (fun _ => ?_)
            refine T_auto TT_ok rfl ?_
            refine RJ_C TT_ok (l8Copy_m c hb) rfl rfl (SVs.imp_refl _) (fun _ => rfl) rfl rfl rfl fun _ _ => ?_
            refine RJ_auto TT_ok rfl ?_
            refine RJ_view (V_carve 903 (findI c id) 77 rfl rfl rfl rfl rfl rfl ⟨hge, hlt⟩) ?_
            refine RJ_view (V_pe 142 rfl rfl rfl) ?_
            refine RJ_auto TT_ok rfl ?_
            refine T_view (V_fold 77 4 171 rfl rfl rfl rfl rfl rfl rfl) ?_
            refine T_view (V_fold 77 5 172 rfl rfl rfl rfl rfl rfl rfl) ?_
            refine T_view (V_uncarve 903 77 rfl rfl rfl rfl rfl rfl rfl) ?_
            refine T_ret TT_ok (()) [(6, some 32), (7, none), (8, none)] rfl rfl ?_ ?_ ?_
            · exact SVs.imp_refl _
            · exact ⟨⟨_, rfl, Ch.imp_refl _⟩, ⟨_, rfl, Ch.imp_refl _⟩, ⟨_, rfl, imp_set (OwnI.refl _)⟩, trivial⟩
            · trivial
          · have hN : allocN c (txAt c id) r = 9 := by
              rw [hA]
              cases g1 : setB (setF c (txAt c id) r) with
              | false => rfl
              | true =>
                cases g2 : (addSet' (addRead' (txAt c id) (noteF c (txAt c id) r)).1 (setF c (txAt c id) r)).2 with
                | false => rfl
                | true => exact absurd ⟨g1, g2⟩ h2
            rw [if_neg (by rw [hN]; decide), hN]
            rw [show addSetM (addRead' (txAt c id) (noteF c (txAt c id) r)).1 (setF c (txAt c id) r) = (GTx.z, false) from by unfold addSetM; rw [if_neg fun h => h2 h.2]]
            refine T_cond rfl (fun _ => ?_) (fun e => by cases e)
            refine T_auto TT_ok rfl ?_
            refine RJ_C TT_ok (l8Copy_m c hb) rfl rfl (SVs.imp_refl _) (fun _ => rfl) rfl rfl rfl fun _ _ => ?_
            refine RJ_auto TT_ok rfl ?_
            refine T_ret TT_ok (()) [(6, some 32), (7, none), (8, none)] rfl rfl ?_ ?_ ?_
            · exact SVs.imp_refl _
            · exact ⟨⟨_, rfl, Ch.imp_refl _⟩, ⟨_, rfl, Ch.imp_refl _⟩, ⟨_, rfl, Ch.imp_refl _⟩, trivial⟩
            · trivial
    · rw [show allocM c id r = (c, -1, runC c id) from by unfold allocM; rw [if_pos hok, if_neg h0]]
      rw [show runI c id = (-1, runC c id) from by unfold runI; rw [if_pos hok, if_neg h0]]
      refine RJ_Q TT_ok (spec_l1In_q _ _ _) rfl rfl rfl rfl rfl ?_
      rw [show (runC c id == 0) = false from by simpa using h0]
      refine T_cond rfl (fun e => by cases e) (fun _ => ?_)
      refine T_auto TT_ok rfl ?_
      refine T_condN rfl (fun e => ?_) (fun e => absurd e h0)
      refine T_auto TT_ok rfl ?_
      have h1 : runC c id ≠ 1 := by
        unfold runC
        cases decide (findI c id < 0) <;> cases homeUp c id <;> cases (txAt c id).phase == 1 <;> decide
      refine RJ_C TT_ok (l9No_m c hb (runC c id) h1) rfl rfl (SVs.imp_refl _) (fun _ => rfl) rfl rfl rfl fun _ _ => ?_
      refine RJ_auto TT_ok rfl ?_
      refine T_ret TT_ok (()) [(6, some 32), (7, none), (8, none)] rfl rfl ?_ ?_ ?_
      · exact SVs.imp_refl _
      · exact ⟨⟨_, rfl, Ch.imp_refl _⟩, ⟨_, rfl, Ch.imp_refl _⟩, ⟨_, rfl, Ch.imp_refl _⟩, trivial⟩
      · trivial
  · rw [show allocM c id r = (GCluster.z, -1, 1) from if_neg hok]
    rw [show runI c id = (-1, 1) from if_neg hok]
    refine RJ_Q TT_ok (spec_l1In_q _ _ _) rfl rfl rfl rfl rfl ?_
    refine T_cond rfl (fun e => by cases e) (fun _ => ?_)
    refine T_auto TT_ok rfl ?_
    refine T_cond rfl (fun _ => ?_) (fun e => by cases e)
    refine T_auto TT_ok rfl ?_
    refine RJ_C TT_ok (l9No1_m c) rfl rfl (SVs.imp_refl _) (fun _ => rfl) rfl rfl rfl fun _ _ => ?_
    refine RJ_auto TT_ok rfl ?_
    refine T_ret TT_ok (()) [(6, some 32), (7, none), (8, none)] rfl rfl ?_ ?_ ?_
    · exact SVs.imp_refl _
    · exact ⟨⟨_, rfl, Ch.imp_refl _⟩, ⟨_, rfl, Ch.imp_refl _⟩, ⟨_, rfl, Ch.imp_refl _⟩, trivial⟩
    · trivial
end Go.Proofs.YtpfcfepbhdkpdaaGreat
