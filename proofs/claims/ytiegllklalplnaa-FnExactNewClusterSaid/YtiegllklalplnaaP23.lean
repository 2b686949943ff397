
/-
  A new cluster, on the specification's side.
-/
import Derived.Test.YtiegllklalplnaaP21
namespace Go.Proofs.Ytiegllklalplnaa
open Go Go.RowKit
set_option linter.unusedVariables false
set_option linter.unusedSimpArgs false
set_option maxRecDepth 4000

def cells0 : List GCell := List.replicate 6 GCell.z
def isIn (m r : Nat) (i : Int) : Bool := decide (i ∈ spL m r)
def copiesL (m : Nat) (i : Int) (r : Nat) : List GCopy := ((List.range r).filter fun r => isIn m r i).map fun (r : Nat) => ⟨r, cells0⟩
def machM (n m : Nat) (i : Nat) : GMachine := ⟨true, copiesL m i n, [], []⟩
def newC (n m : Nat) : GCluster := ⟨1, 0, spreadL n m, (List.range m).map (machM n m), [], false⟩
def newClusterM (a b : Int) : GCluster × Bool := bif (bif !inB a 1 6 then true else !inB b 1 8) then (GCluster.z, false) else (newC a.toNat b.toNat, true)
theorem copiesL_succ (m : Nat) (i : Int) (r : Nat) : copiesL m i (r + 1) = if isIn m r i then copiesL m i r ++ [⟨r, cells0⟩] else copiesL m i r := by
  unfold copiesL
  rw [List.range_succ, List.filter_append, List.map_append]
  by_cases h : isIn m r i
  · rw [if_pos h]; simp [h]
  · rw [if_neg h]; simp [h]
theorem copiesL_le (m : Nat) (i : Int) (r : Nat) : (copiesL m i r).length ≤ r := by
  unfold copiesL
  rw [List.length_map]
  exact Nat.le_trans (List.length_filter_le _ _) (by simp)
theorem newCells_c : MkL Try.prog 47 [] 2 cCell GCell.z cells0 := by
  refine con_enter Try.func47 rfl rfl rfl fun B0 r_ D_ w0 => ?_
  refine T_auto TT_ok rfl ?_
  refine RJ_make TT_ok 900 6 rfl rfl rfl rfl rfl rfl rfl ⟨by decide, by decide⟩ ?_
  refine RJ_auto TT_ok rfl ?_
  refine T_ret TT_ok (()) [(0, none)] rfl rfl ?_ ?_ ?_
  · exact SVs.imp_refl _
  · exact ⟨⟨_, rfl, Ch.imp_len rfl fun i hi => by
      have : cells0.getD i GCell.z = GCell.z := by
        have h : i < 6 := hi
        rcases i with _ | _ | _ | _ | _ | _ | i <;> first | rfl | omega
      rw [this]; rfl⟩, trivial⟩
  · trivial
theorem spec_Spread_no (a b : Int) (h : (bif !inB a 1 6 then true else !inB b 1 8) = true) : Con Try.prog 45 [] [vI a, vI b] [] (fun _ : Unit => True) (fun _ => [.a (.g 900), vB false]) fun _ => [(900, arrC 1 cPlace GPlace.z [])] := by
  refine con_enter Try.func45 rfl rfl rfl fun B0 r_ D_ w0 => ?_
  refine T_auto TT_ok rfl ?_
  refine RJ_Q TT_ok (spec_l1In_q _ _ _) rfl rfl rfl rfl rfl ?_
  refine RJ_Q TT_ok (spec_l1In_q _ _ _) rfl rfl rfl rfl rfl ?_
  rw [h]
  refine T_cond rfl (fun _ => ?_) (fun e => by cases e)
  refine T_auto TT_ok rfl ?_
  refine RJ_bs TT_ok 900 (fun i => cPlace (([] : List GPlace).getD i GPlace.z)) rfl rfl rfl rfl rfl rfl rfl (fun i hi => absurd hi (Nat.not_lt_zero _)) (mu1 := []) rfl rfl rfl ?_
  refine RJ_auto TT_ok rfl ?_
  refine T_ret TT_ok (()) [(4, none), (5, none)] rfl rfl ?_ ?_ ?_
  · exact SVs.imp_refl _
  · exact ⟨⟨_, rfl, Ch.imp_refl _⟩, trivial⟩
  · trivial
theorem spreadL_get {n m r : Nat} (h : r < n) : (spreadL n m).getD r GPlace.z = spP m r := by simp [spreadL, h]
theorem spec_NewCluster_yes (n m : Nat) (hn : 1 ≤ n ∧ n ≤ 6) (hm : 1 ≤ m ∧ m ≤ 8) : MkCB Try.prog 17 [vI n, vI m] (newC n m) true := by
  have hsl : (spreadL n m).length = n := by simp [spreadL]
  refine con_enter Try.func17 rfl rfl rfl fun B0 r_ D_ w0 => ?_
  refine T_auto TT_ok rfl ?_
  refine RJ_C TT_ok (Con.sw 900 901 (spec_Spread_c n m hn hm)) rfl rfl (SVs.imp_refl _) (fun _ => rfl) rfl rfl rfl fun _ _ => ?_
  refine RJ_auto TT_ok rfl ?_
  refine T_cond rfl (fun e => by cases e) (fun _ => ?_)
  refine T_auto TT_ok rfl ?_
  refine T_view (V_nilR 8 3 4 (fun i => cMachine (([] : List GMachine).getD i GMachine.z)) rfl rfl rfl) ?_
  refine T_view (V_open 8 3 60 rfl rfl rfl rfl rfl rfl) ?_
  refine T_loopA (ι := Nat) (fun i => [(9, vI i)]) (fun i => [(60, arrC 4 cMachine GMachine.z ((List.range i).map (machM n m))), (8, .row [.v (.int .i64 1), .v (.int .i64 0), .g 901, .g 60, nilV, .v (.bool false)])]) (fun i => i ≤ m) (fun i => m - i) 0 [60, 8] [60] rfl rfl (Nat.zero_le _) (by repeat (first | exact trivial | refine And.intro ⟨_, rfl, SV.imp_refl _⟩ ?_)) (by repeat (first | exact trivial | refine And.intro ⟨_, rfl, Ch.imp_refl _⟩ ?_)) ?_
  intro i h1
  have hl1 : ((List.range i).map (machM n m)).length = i := by simp
  refine T_auto TT_ok rfl ?_
  refine T_condD rfl (fun e => ?_) (fun e => ?_)
  · have hi : i < m := by omega
    refine T_auto TT_ok rfl ?_
    refine T_view (V_nilR 10 1 2 (fun i => cCopy (([] : List GCopy).getD i GCopy.z)) rfl rfl rfl) ?_
    refine T_view (V_open 10 1 70 rfl rfl rfl rfl rfl rfl) ?_
    refine T_loopA (ι := Nat) (fun r => [(11, vI r)]) (fun r => [(70, arrC 2 cCopy GCopy.z (copiesL m i r)), (10, .row [.v (.bool true), .g 70, nilV, nilV])]) (fun r => r ≤ n) (fun r => n - r) 0 [70, 10] [70] rfl rfl (Nat.zero_le _) (by repeat (first | exact trivial | refine And.intro ⟨_, rfl, SV.imp_refl _⟩ ?_)) (by repeat (first | exact trivial | refine And.intro ⟨_, rfl, Ch.imp_refl _⟩ ?_)) ?_
    intro r h2
    have hl2 := copiesL_le m i r
    refine T_auto TT_ok rfl ?_
    refine T_condD rfl (fun e2 => ?_) (fun e2 => ?_)
    · have hr : r < n := by omega
      refine T_auto TT_ok rfl ?_
      refine RJ_Q TT_ok (l3Has_q ((spreadL n m).getD r GPlace.z).machines (by rw [spreadL_get hr]; simp [spP, spL]; omega) _) rfl rfl rfl rfl rfl ?_
      rw [spreadL_get hr]
      refine T_cond (b := isIn m r i) rfl (fun e3 => ?_) (fun e3 => ?_)
      · refine T_auto TT_ok rfl ?_
        refine T_drawL TT_ok [70] [0, 1, 2, 3, 4, 5, 6, 7, 8] rfl rfl fun B0 H0 => ?_
        refine DJ_C 3 (Con.sw 900 44 newCells_c) rfl rfl rfl (SVs.imp_refl _) (fun _ => rfl) rfl rfl rfl fun _ _ => ?_
        refine DJ_onL TT_ok [4, 5, 6, 7, 8] rfl ?_
        refine DJ_one 5 rfl (by kernel_rfl) (OJ_bs TT_ok 46 (fun _ => cCopy ⟨r, cells0⟩) rfl rfl rfl rfl rfl rfl rfl (fun j hj => by rcases j with _ | j <;> first | rfl | omega) (mu1 := [(44, .arr 0 0 fun _ => [])]) rfl rfl rfl (SJ_dj ?_))
        refine DJ_one 6 rfl (by kernel_rfl) (OJ_appM TT_ok 70 46 47 rfl rfl rfl rfl rfl rfl rfl rfl rfl rfl rfl rfl ⟨by show ((copiesL m i r).length + 1) * 32 ≤ _; omega, by unfold maxL; omega⟩ (SJ_dj ?_))
        refine DJ_onL TT_ok [7, 8] rfl ?_
        refine DJ_sw2 8 rfl (by kernel_rfl) (by kernel_rfl) (OJ_M TT_ok rfl rfl rfl rfl rfl rfl (SJ_sw [] fun B0 H0 => ?_))
        refine DJ_endA TT_ok rfl ?_
        refine X_view (V_sw 70 47) ?_
        exact X_inv (r + 1) hr (by omega) (by repeat (first | exact trivial | refine And.intro ⟨_, rfl, SV.imp_refl _⟩ ?_)) ⟨⟨_, rfl, imp_app1 (x := (⟨r, cells0⟩ : GCopy)) (by rw [copiesL_succ, if_pos e3]) rfl⟩, (by repeat (first | exact trivial | refine And.intro ⟨_, rfl, Ch.imp_refl _⟩ ?_))⟩
      · refine T_auto TT_ok rfl ?_
        exact X_inv (r + 1) hr (by omega) (by repeat (first | exact trivial | refine And.intro ⟨_, rfl, SV.imp_refl _⟩ ?_)) ⟨⟨_, rfl, imp_list (by rw [copiesL_succ, if_neg (by rw [e3]; simp)])⟩, (by repeat (first | exact trivial | refine And.intro ⟨_, rfl, Ch.imp_refl _⟩ ?_))⟩
    have hr : r = n := by omega
    subst hr
    refine T_auto TT_ok rfl ?_
    refine RJ_bs TT_ok 52 (fun _ => [dB true, dL 2 cCopy GCopy.z (copiesL m i r), .v (.slice none 0 0), .v (.slice none 0 0)]) rfl rfl rfl rfl rfl rfl rfl (fun i hi => by rcases i with _ | i <;> first | rfl | omega) (mu1 := [(70, .arr 0 0 fun _ => [])]) rfl rfl rfl ?_
    refine RJ_auto TT_ok rfl ?_
    refine RJ_appM TT_ok 60 52 53 rfl rfl rfl rfl rfl rfl rfl rfl rfl rfl rfl rfl ⟨by show (((List.range i).map (machM r m)).length + 1) * 80 ≤ _; omega, by unfold maxL; omega⟩ ?_
    refine RJ_auto TT_ok rfl ?_
    refine X_view (V_sw 60 53) ?_
    exact X_inv (i + 1) hi (by omega) (by repeat (first | exact trivial | refine And.intro ⟨_, rfl, SV.imp_refl _⟩ ?_)) ⟨⟨_, rfl, imp_app1' (x := machM r m i) (range_succ_map _ i) (OwnI.c (OwnI.c (OwnI.n (OwnI.n OwnI.e))))⟩, (by repeat (first | exact trivial | refine And.intro ⟨_, rfl, Ch.imp_refl _⟩ ?_))⟩
  have hi : i = m := by omega
  subst hi
  refine T_auto TT_ok rfl ?_
  refine T_view (V_sw 60 902) ?_
  refine T_view (V_nilR 4 4 7 (fun i => cTx (([] : List GTx).getD i GTx.z)) rfl rfl rfl) ?_
  refine T_view (V_open 4 4 903 rfl rfl rfl rfl rfl rfl) ?_
  refine T_ret TT_ok (()) [(4, some 51), (5, none)] rfl rfl ?_ ?_ ?_
  · exact SVs.imp_refl _
  · exact ⟨⟨_, rfl, Ch.imp_refl _⟩, ⟨_, rfl, Ch.imp_refl _⟩, ⟨_, rfl, Ch.imp_refl _⟩, trivial⟩
  · trivial
theorem spec_NewCluster_m (a b : Int) : MkCB Try.prog 17 [vI a, vI b] (newClusterM a b).1 (newClusterM a b).2 := by
  cases h : (bif !inB a 1 6 then true else !inB b 1 8) with
  | true =>
    rw [show newClusterM a b = (GCluster.z, false) from by unfold newClusterM; rw [h]; rfl]
    refine con_enter Try.func17 rfl rfl rfl fun B0 r_ D_ w0 => ?_
    refine T_auto TT_ok rfl ?_
    refine RJ_C TT_ok (Con.sw 900 6001 (spec_Spread_no a b h)) rfl rfl (SVs.imp_refl _) (fun _ => rfl) rfl rfl rfl fun _ _ => ?_
    refine RJ_auto TT_ok rfl ?_
    refine T_cond rfl (fun _ => ?_) (fun e => by cases e)
    refine T_auto TT_ok rfl ?_
    refine T_view (V_nilR 4 2 1 (fun i => cPlace (([] : List GPlace).getD i GPlace.z)) rfl rfl rfl) ?_
    refine T_view (V_nilR 4 3 4 (fun i => cMachine (([] : List GMachine).getD i GMachine.z)) rfl rfl rfl) ?_
    refine T_view (V_nilR 4 4 7 (fun i => cTx (([] : List GTx).getD i GTx.z)) rfl rfl rfl) ?_
    refine T_view (V_open 4 2 901 rfl rfl rfl rfl rfl rfl) ?_
    refine T_view (V_open 4 3 902 rfl rfl rfl rfl rfl rfl) ?_
    refine T_view (V_open 4 4 903 rfl rfl rfl rfl rfl rfl) ?_
    refine T_ret TT_ok (()) [(4, some 51), (5, none)] rfl rfl ?_ ?_ ?_
    · exact SVs.imp_refl _
    · exact ⟨⟨_, rfl, Ch.imp_refl _⟩, ⟨_, rfl, Ch.imp_refl _⟩, ⟨_, rfl, Ch.imp_refl _⟩, trivial⟩
    · trivial
  | false =>
    have h1 : inB a 1 6 = true ∧ inB b 1 8 = true := by
      cases c1 : inB a 1 6 <;> cases c2 : inB b 1 8 <;> simp [c1, c2] at h ⊢
    have h2 := inB_iff.1 h1.1
    have h3 := inB_iff.1 h1.2
    rw [show newClusterM a b = (newC a.toNat b.toNat, true) from by unfold newClusterM; rw [h]; rfl]
    obtain ⟨n, rfl⟩ : ∃ n : Nat, a = n := ⟨a.toNat, by omega⟩
    obtain ⟨m, rfl⟩ : ∃ m : Nat, b = m := ⟨b.toNat, by omega⟩
    exact spec_NewCluster_yes n m (by omega) (by omega)
end Go.Proofs.Ytiegllklalplnaa
