
/-
  A new cluster, in the program: the walk.
-/
import Derived.Test.YtiegllklalplnaaP25
namespace Go.Proofs.Ytiegllklalplnaa
open Go Go.RowKit
set_option linter.unusedVariables false
set_option linter.unusedSimpArgs false
set_option maxRecDepth 4000

theorem newCluster_c (n m : Nat) (hn : 1 ≤ n ∧ n ≤ 6) (hm : 1 ≤ m ∧ m ≤ 8) : MkClus Try.prog 49 [vI n, vI m] (newC n m) := by
  have hsl : (spreadL n m).length = n := by simp [spreadL]
  refine con_enter Try.func49 rfl rfl rfl fun B0 r_ D_ w0 => ?_
  refine T_auto TT_ok rfl ?_
  refine T_cut [(0, vI n), (1, vI m), (4, .a (.p 4 0)), (5, .a (.p 5 0))] [(4, .row [.v (.int .i64 0), .v (.int .i64 0), nilV, nilV, nilV, .v (.bool false)]), (5, .row [.v (.int .i64 1), .v (.int .i64 0), .g 901, .g 60, nilV, .v (.bool false)]), (901, arrC 1 cPlace GPlace.z (spreadL n m)), (60, .arr 4 m fun _ => aliveD false)] ?_ fun key => ?_
  rotate_left
  · refine T_drawL TT_ok [] [0, 1, 3, 2, 4, 5, 6, 7] rfl rfl fun B0 H0 => ?_
    refine DJ_three 2 4 6 rfl rfl rfl (by kernel_rfl) (DJ_Cc (Con.sw 900 901 (spread_c n m hn hm)) rfl rfl (SVs.imp_refl _) (fun _ => rfl) rfl rfl rfl (fun _ _ => SJ_dj ?_)) (OJ_make TT_ok 60 m rfl rfl rfl rfl rfl rfl rfl ⟨by show m * 80 ≤ _; omega, by unfold maxL; omega⟩ (SJ_dj ?_)) (OJ_M TT_ok rfl rfl rfl rfl rfl rfl (SJ_dj ?_))
    · skip
      refine DJ_two 4 6 rfl rfl (by kernel_rfl) (OJ_make TT_ok 60 m rfl rfl rfl rfl rfl rfl rfl ⟨by show m * 80 ≤ _; omega, by unfold maxL; omega⟩ (SJ_dj ?_)) (OJ_M TT_ok rfl rfl rfl rfl rfl rfl (SJ_dj ?_))
      · refine DJ_onL TT_ok [5, 6, 7] rfl ?_
        refine DJ_one 6 rfl (by kernel_rfl) (OJ_M TT_ok rfl rfl rfl rfl rfl rfl (SJ_dj ?_))
        refine DJ_one 7 rfl (by kernel_rfl) (OJ_M TT_ok rfl rfl rfl rfl rfl rfl (SJ_dj ?_))
        exact DJ_endK key (by repeat (first | exact trivial | refine And.intro ⟨_, rfl, SV.imp_refl _⟩ ?_)) (by repeat (first | exact trivial | refine And.intro ⟨_, rfl, Ch.imp_refl _⟩ ?_))
      · skip
        refine DJ_one 4 rfl (by kernel_rfl) (OJ_make TT_ok 60 m rfl rfl rfl rfl rfl rfl rfl ⟨by show m * 80 ≤ _; omega, by unfold maxL; omega⟩ (SJ_dj ?_))
        refine DJ_onL TT_ok [5, 7] rfl ?_
        refine DJ_one 7 rfl (by kernel_rfl) (OJ_M TT_ok rfl rfl rfl rfl rfl rfl (SJ_dj ?_))
        exact DJ_endK key (by repeat (first | exact trivial | refine And.intro ⟨_, rfl, SV.imp_refl _⟩ ?_)) (by repeat (first | exact trivial | refine And.intro ⟨_, rfl, Ch.imp_refl _⟩ ?_))
    · skip
      refine DJ_two 2 6 rfl rfl (by kernel_rfl) (DJ_Cc (Con.sw 900 901 (spread_c n m hn hm)) rfl rfl (SVs.imp_refl _) (fun _ => rfl) rfl rfl rfl (fun _ _ => SJ_dj ?_)) (OJ_M TT_ok rfl rfl rfl rfl rfl rfl (SJ_dj ?_))
      · refine DJ_onL TT_ok [5, 6, 7] rfl ?_
        refine DJ_one 6 rfl (by kernel_rfl) (OJ_M TT_ok rfl rfl rfl rfl rfl rfl (SJ_dj ?_))
        refine DJ_one 7 rfl (by kernel_rfl) (OJ_M TT_ok rfl rfl rfl rfl rfl rfl (SJ_dj ?_))
        exact DJ_endK key (by repeat (first | exact trivial | refine And.intro ⟨_, rfl, SV.imp_refl _⟩ ?_)) (by repeat (first | exact trivial | refine And.intro ⟨_, rfl, Ch.imp_refl _⟩ ?_))
      · skip
        refine DJ_C 2 (Con.sw 900 901 (spread_c n m hn hm)) rfl rfl rfl (SVs.imp_refl _) (fun _ => rfl) rfl rfl rfl fun _ _ => ?_
        refine DJ_onL TT_ok [5, 7] rfl ?_
        refine DJ_one 7 rfl (by kernel_rfl) (OJ_M TT_ok rfl rfl rfl rfl rfl rfl (SJ_dj ?_))
        exact DJ_endK key (by repeat (first | exact trivial | refine And.intro ⟨_, rfl, SV.imp_refl _⟩ ?_)) (by repeat (first | exact trivial | refine And.intro ⟨_, rfl, Ch.imp_refl _⟩ ?_))
    · skip
      refine DJ_two 2 4 rfl rfl (by kernel_rfl) (DJ_Cc (Con.sw 900 901 (spread_c n m hn hm)) rfl rfl (SVs.imp_refl _) (fun _ => rfl) rfl rfl rfl (fun _ _ => SJ_dj ?_)) (OJ_make TT_ok 60 m rfl rfl rfl rfl rfl rfl rfl ⟨by show m * 80 ≤ _; omega, by unfold maxL; omega⟩ (SJ_dj ?_))
      · skip
        refine DJ_one 4 rfl (by kernel_rfl) (OJ_make TT_ok 60 m rfl rfl rfl rfl rfl rfl rfl ⟨by show m * 80 ≤ _; omega, by unfold maxL; omega⟩ (SJ_dj ?_))
        refine DJ_onL TT_ok [5, 7] rfl ?_
        refine DJ_one 7 rfl (by kernel_rfl) (OJ_M TT_ok rfl rfl rfl rfl rfl rfl (SJ_dj ?_))
        exact DJ_endK key (by repeat (first | exact trivial | refine And.intro ⟨_, rfl, SV.imp_refl _⟩ ?_)) (by repeat (first | exact trivial | refine And.intro ⟨_, rfl, Ch.imp_refl _⟩ ?_))
      · skip
        refine DJ_C 2 (Con.sw 900 901 (spread_c n m hn hm)) rfl rfl rfl (SVs.imp_refl _) (fun _ => rfl) rfl rfl rfl fun _ _ => ?_
        refine DJ_onL TT_ok [5, 7] rfl ?_
        refine DJ_one 7 rfl (by kernel_rfl) (OJ_M TT_ok rfl rfl rfl rfl rfl rfl (SJ_dj ?_))
        exact DJ_endK key (by repeat (first | exact trivial | refine And.intro ⟨_, rfl, SV.imp_refl _⟩ ?_)) (by repeat (first | exact trivial | refine And.intro ⟨_, rfl, Ch.imp_refl _⟩ ?_))
  refine X_go TT_ok rfl ?_
  refine T_loopA (ι := Nat) (fun i => [(20, vI i)]) (fun i => [(60, .arr 4 m fun j => aliveD (decide (j < i)))]) (fun i => i ≤ m) (fun i => m - i) 0 [60] [] rfl rfl (Nat.zero_le _) (by repeat (first | exact trivial | refine And.intro ⟨_, rfl, SV.imp_refl _⟩ ?_)) ⟨⟨_, rfl, Ch.imp_arr fun j _ => by simp [aliveD]⟩, trivial⟩ ?_
  intro i h1
  refine T_auto TT_ok rfl ?_
  refine T_condD rfl (fun e => ?_) (fun e => ?_)
  · have hi : i < m := by omega
    refine T_auto TT_ok rfl ?_
    exact X_inv (i + 1) hi (by omega) (by repeat (first | exact trivial | refine And.intro ⟨_, rfl, SV.imp_refl _⟩ ?_)) ⟨⟨_, rfl, Ch.imp_arr fun j hj => by
      by_cases c : j = i
      · subst c
        rw [show ((j : Int)).toNat = j from rfl, Nat.beq_refl, decide_eq_true (by omega)]; rfl
      · have h2 : Nat.beq j ((i : Int)).toNat = false := by
          cases e : Nat.beq j ((i : Int)).toNat with
          | false => rfl
          | true => exact absurd (Nat.eq_of_beq_eq_true e) c
        rw [h2, show decide (j < i + 1) = decide (j < i) from by congr 1; exact propext ⟨fun h => by omega, fun h => by omega⟩]; rfl⟩, (by repeat (first | exact trivial | refine And.intro ⟨_, rfl, Ch.imp_refl _⟩ ?_))⟩
  have hi : i = m := by omega
  subst hi
  refine T_auto TT_ok rfl ?_
  refine T_loopA (ι := Nat) (fun r => [(32, vI r)]) (fun r => [(60, .arr 4 i fun j => cMachine (machK i r 0 j)), (901, .arr 1 n fun r => cPlace (spP i r))]) (fun r => r ≤ n) (fun r => n - r) 0 [60, 901] [] rfl rfl (Nat.zero_le _) (by repeat (first | exact trivial | refine And.intro ⟨_, rfl, SV.imp_refl _⟩ ?_)) ⟨⟨_, rfl, Ch.imp_own rfl fun j hj => by rw [decide_eq_true hj]; exact OwnI.c (OwnI.n (OwnI.n (OwnI.n OwnI.e)))⟩, ⟨_, rfl, Ch.imp_len hsl fun j hj => by rw [spreadL_get (by omega)]⟩, trivial⟩ ?_
  intro r h2
  have hlen := spL_len i r
  refine T_auto TT_ok rfl ?_
  refine T_condD rfl (fun e2 => ?_) (fun e2 => ?_)
  · have hr : r < n := by omega
    refine T_view (V_carve 901 r 77 rfl rfl rfl rfl rfl rfl ⟨by omega, by omega⟩) ?_
    refine T_view (V_open 77 0 78 rfl rfl rfl rfl rfl rfl) ?_
    refine T_auto TT_ok rfl ?_
    refine RJ_view (V_pe 35 rfl rfl rfl) ?_
    refine RJ_auto TT_ok rfl ?_
    refine T_loopA (ι := Nat) (fun k => [(40, vI k)]) (fun k => [(60, .arr 4 i fun j => cMachine (machK i r k j))]) (fun k => k ≤ min i 3) (fun k => min i 3 - k) 0 [60] [] rfl rfl (Nat.zero_le _) (by repeat (first | exact trivial | refine And.intro ⟨_, rfl, SV.imp_refl _⟩ ?_)) (by repeat (first | exact trivial | refine And.intro ⟨_, rfl, Ch.imp_refl _⟩ ?_)) ?_
    intro k h3
    refine T_auto TT_ok rfl ?_
    refine T_condD rfl (fun e3 => ?_) (fun e3 => ?_)
    · have hk : k < min i 3 := by
        have : (k : Int) < (spL i r).length := e3
        omega
      have hq := spL_in (r := r) hm.1 hk
      have hqn : ((((spL i r).getD k 0).toNat : Nat) : Int) = (spL i r).getD k 0 := by omega
      have hc := copK_same (r := r) hm.1 hk hqn
      refine T_autoO TT_ok rfl ?_ ?_
      · exact ⟨⟨by omega, e3⟩, ⟨by omega, e3⟩, trivial⟩
      have hq' : 0 ≤ (spP i ((r : Nat) : Int).toNat).machines.getD ((k : Nat) : Int).toNat 0 ∧ (spP i ((r : Nat) : Int).toNat).machines.getD ((k : Nat) : Int).toNat 0 < i := hq
      refine T_view (V_carve 60 ((spL i r).getD k 0) 79 rfl rfl rfl rfl rfl rfl ⟨hq.1, hq.2⟩) ?_
      refine T_view (V_open 79 1 80 rfl rfl rfl rfl rfl rfl) ?_
      refine T_drawL TT_ok [] [0, 1, 2, 3, 4, 5, 6] rfl rfl fun B0 H0 => ?_
      refine DJ_one 5 rfl (by kernel_rfl) (OJ_make TT_ok 81 6 rfl rfl rfl rfl rfl rfl rfl ⟨by decide, by decide⟩ (SJ_dj ?_))
      refine DJ_sw2 6 rfl (by kernel_rfl) (by kernel_rfl) (SJ_view (V_pe 47 rfl rfl rfl) (DJ_Cc (Con.sw 900 79 (Con.sw 901 80 (replaceEnd_c true 0 0 _ _ (copK i r k ((spL i r).getD k 0).toNat) ?h1 r cells0 (by decide) ?h2))) rfl rfl (SVs.cons (SV.imp_refl _) (SVs.cons (SV.imp_refl _) (SVs.cons (SV.imp_s ?h3) rfl))) (fun _ => rfl) rfl rfl rfl (fun _ _ => SJ_sw [] fun B0 H0 => ?h4)))
      case h1 => rw [hc.1]; have := copiesL_le i ((((spL i r).getD k 0).toNat : Nat) : Int) r; omega
      case h2 => rw [hc.1]; exact copiesL_lt _ _ _
      case h3 =>
        intro j hj
        have h : j < 6 := hj
        have e : cells0.getD j GCell.z = GCell.z := by
          rcases j with _ | _ | _ | _ | _ | _ | j <;> first | rfl | omega
        show zsD _ = cCell (cells0.getD j GCell.z)
        rw [e]; rfl
      refine DJ_endA TT_ok rfl ?_
      refine X_view (V_fold 79 1 904 rfl rfl rfl rfl rfl rfl rfl) ?_
      refine X_view (V_uncarve 60 79 rfl rfl rfl rfl rfl rfl rfl) ?_
      exact X_inv (k + 1) hk (by omega) (by repeat (first | exact trivial | refine And.intro ⟨_, rfl, SV.imp_refl _⟩ ?_)) ⟨⟨_, rfl, Ch.imp_arr fun j hj => by
        by_cases c : j = ((spL i r).getD k 0).toNat
        · subst c
          rw [Nat.beq_refl]
          unfold machK
          rw [hc.2, hc.1]; rfl
        · have h2 : Nat.beq j ((spL i r).getD k 0).toNat = false := by
            cases e : Nat.beq j ((spL i r).getD k 0).toNat with
            | false => rfl
            | true => exact absurd (Nat.eq_of_beq_eq_true e) c
          rw [h2]
          unfold machK
          rw [copK_other hk (by omega)]; rfl⟩, (by repeat (first | exact trivial | refine And.intro ⟨_, rfl, Ch.imp_refl _⟩ ?_))⟩
    have hk : k = min i 3 := by
      have : ¬ (k : Int) < (spL i r).length := e3
      omega
    subst hk
    refine T_auto TT_ok rfl ?_
    refine X_view (V_fold 77 0 78 rfl rfl rfl rfl rfl rfl rfl) ?_
    refine X_view (V_uncarve 901 77 rfl rfl rfl rfl rfl rfl rfl) ?_
    exact X_inv (r + 1) hr (by omega) (by repeat (first | exact trivial | refine And.intro ⟨_, rfl, SV.imp_refl _⟩ ?_)) ⟨⟨_, rfl, Ch.imp_arr fun j hj => by unfold machK; rw [copK_end]⟩, ⟨_, rfl, Ch.imp_arr fun j hj => by
      by_cases c : j = r
      · subst c
        rw [show ((j : Int)).toNat = j from rfl, Nat.beq_refl]; rfl
      · have h2 : Nat.beq j ((r : Int)).toNat = false := by
          cases e : Nat.beq j ((r : Int)).toNat with
          | false => rfl
          | true => exact absurd (Nat.eq_of_beq_eq_true e) c
        rw [h2]; rfl⟩, (by repeat (first | exact trivial | refine And.intro ⟨_, rfl, Ch.imp_refl _⟩ ?_))⟩
  have hr : r = n := by omega
  subst hr
  refine T_auto TT_ok rfl ?_
  refine T_view (V_sw 60 902) ?_
  refine T_view (V_nilR 4 4 7 (fun i => cTx (([] : List GTx).getD i GTx.z)) rfl rfl rfl) ?_
  refine T_view (V_open 4 4 903 rfl rfl rfl rfl rfl rfl) ?_
  refine T_ret TT_ok (()) [(4, some 51)] rfl rfl ?_ ?_ ?_
  · exact SVs.imp_refl _
  · exact ⟨⟨_, rfl, Ch.imp_len hsl.symm fun j hj => by
      show _ = cPlace ((spreadL r i).getD j GPlace.z)
      rw [spreadL_get hj]⟩, ⟨_, rfl, Ch.imp_len (by simp [newC]) fun j hj => by
      have e : (newC r i).machines.getD j GMachine.z = machM r i j := by simp [newC, hj]
      rw [e]
      unfold machK machM copK
      simp⟩, ⟨_, rfl, Ch.imp_refl _⟩, trivial⟩
  · trivial
end Go.Proofs.Ytiegllklalplnaa
