
/-
  Where the copies lie: Spread; on both sides.
-/
import Derived.Test.YtiegllklalplnaaP20
namespace Go.Proofs.Ytiegllklalplnaa
open Go Go.RowKit
set_option linter.unusedVariables false
set_option linter.unusedSimpArgs false
set_option maxRecDepth 4000

theorem spec_l1Min_q (a b : Int) : Ans Try.prog 80 [] [vI a, vI b] [] (vI (bif decide (a < b) then a else b)) := by
  refine con_enter Try.func80 rfl rfl rfl fun B0 r_ D_ w0 => ?_
  refine T_auto TT_ok rfl ?_
  refine T_condD rfl (fun e => ?_) (fun e => ?_)
  · refine T_auto TT_ok rfl ?_
    exact T_ansI TT_ok [(4, none)] rfl rfl ((by rw [decide_eq_true e]; rfl))
  · refine T_auto TT_ok rfl ?_
    exact T_ansI TT_ok [(4, none)] rfl rfl ((by rw [decide_eq_false e]; rfl))
def spL (m r : Nat) : List Int := (List.range (min m 3)).map fun k => ((r : Int) + (k : Nat)).tmod m
def spP (m r : Nat) : GPlace := ⟨spL m r⟩
def spreadL (n m : Nat) : List GPlace := (List.range n).map (spP m)
def spreadM (a b : Int) : List GPlace × Bool := bif (bif !inB a 1 6 then true else !inB b 1 8) then ([], false) else (spreadL a.toNat b.toNat, true)
theorem range_succ_map {α : Type} (f : Nat → α) (i : Nat) : (List.range (i + 1)).map f = (List.range i).map f ++ [f i] := by rw [List.range_succ, List.map_append]; rfl
theorem spec_Spread_c (n m : Nat) (hn : 1 ≤ n ∧ n ≤ 6) (hm : 1 ≤ m ∧ m ≤ 8) : Con Try.prog 45 [] [vI n, vI m] [] (fun _ : Unit => True) (fun _ => [.a (.g 900), vB true]) fun _ => [(900, arrC 1 cPlace GPlace.z (spreadL n m))] := by
  refine con_enter Try.func45 rfl rfl rfl fun B0 r_ D_ w0 => ?_
  refine T_auto TT_ok rfl ?_
  refine RJ_Q TT_ok (spec_l1In_q _ _ _) rfl rfl rfl rfl rfl ?_
  refine RJ_Q TT_ok (spec_l1In_q _ _ _) rfl rfl rfl rfl rfl ?_
  rw [show inB (n : Int) 1 6 = true from inB_iff.2 (by omega), show inB (m : Int) 1 8 = true from inB_iff.2 (by omega)]
  refine T_cond rfl (fun e => by cases e) (fun _ => ?_)
  refine T_auto TT_ok rfl ?_
  refine RJ_bs TT_ok 19 (fun i => cPlace (([] : List GPlace).getD i GPlace.z)) rfl rfl rfl rfl rfl rfl rfl (fun i hi => absurd hi (Nat.not_lt_zero _)) (mu1 := []) rfl rfl rfl ?_
  refine RJ_auto TT_ok rfl ?_
  refine T_loopA (ι := Nat) (fun i => [(7, vI i), (6, .a (.g 19))]) (fun i => [(19, arrC 1 cPlace GPlace.z ((List.range i).map (spP m)))]) (fun i => i ≤ n) (fun i => n - i) 0 [19] [19] rfl rfl (Nat.zero_le _) (by repeat (first | exact trivial | refine And.intro ⟨_, rfl, SV.imp_refl _⟩ ?_)) (by repeat (first | exact trivial | refine And.intro ⟨_, rfl, Ch.imp_refl _⟩ ?_)) ?_
  intro i h1
  have hl1 : ((List.range i).map (spP m)).length = i := by simp
  refine T_auto TT_ok rfl ?_
  refine T_condD rfl (fun e => ?_) (fun e => ?_)
  · have hi : i < n := by omega
    refine T_auto TT_ok rfl ?_
    refine T_view (V_nilR 8 0 1 (fun i => cInt (([] : List Int).getD i 0)) rfl rfl rfl) ?_
    refine T_view (V_open 8 0 50 rfl rfl rfl rfl rfl rfl) ?_
    refine T_loopA (ι := Nat) (fun k => [(9, vI k)]) (fun k => [(50, arrC 1 cInt 0 ((List.range k).map fun k => ((i : Int) + (k : Nat)).tmod m)), (8, .row [.g 50])]) (fun k => k ≤ min m 3) (fun k => min m 3 - k) 0 [50, 8] [50] rfl rfl (Nat.zero_le _) (by repeat (first | exact trivial | refine And.intro ⟨_, rfl, SV.imp_refl _⟩ ?_)) (by repeat (first | exact trivial | refine And.intro ⟨_, rfl, Ch.imp_refl _⟩ ?_)) ?_
    intro k h2
    have hl2 : ((List.range k).map fun k => ((i : Int) + (k : Nat)).tmod m).length = k := by simp
    refine T_auto TT_ok rfl ?_
    refine RJ_Q TT_ok (spec_l1Min_q _ _) rfl rfl rfl rfl rfl ?_
    refine T_condD rfl (fun e2 => ?_) (fun e2 => ?_)
    · have hk : k < min m 3 := by
        by_cases c : (m : Int) < 3
        · rw [decide_eq_true c] at e2; simp at e2; omega
        · rw [decide_eq_false c] at e2; simp at e2; omega
      refine T_auto TT_ok rfl ?_
      refine T_drawL TT_ok [50] [0, 1, 2, 3, 4, 5, 6, 7, 8, 9, 10] rfl rfl fun B0 H0 => ?_
      refine DJ_one 7 rfl (by kernel_rfl) (OJ_bs TT_ok 39 (fun _ => cInt (((i : Int) + (k : Nat)).tmod m)) rfl rfl rfl rfl rfl rfl rfl (fun j hj => by rcases j with _ | j <;> first | rfl | omega) (mu1 := []) rfl rfl rfl (SJ_dj ?_))
      refine DJ_one 8 rfl (by kernel_rfl) (OJ_appM TT_ok 50 39 40 rfl rfl rfl rfl rfl rfl rfl rfl rfl rfl rfl rfl ⟨by show (((List.range k).map fun k => ((i : Int) + (k : Nat)).tmod m).length + 1) * 8 ≤ _; omega, by unfold maxL; omega⟩ (SJ_dj ?_))
      refine DJ_onL TT_ok [9, 10] rfl ?_
      refine DJ_sw2 10 rfl (by kernel_rfl) (by kernel_rfl) (OJ_M TT_ok rfl rfl rfl rfl rfl rfl (SJ_sw [] fun B0 H0 => ?_))
      refine DJ_endA TT_ok rfl ?_
      refine X_view (V_sw 50 40) ?_
      exact X_inv (k + 1) hk (by omega) (by repeat (first | exact trivial | refine And.intro ⟨_, rfl, SV.imp_refl _⟩ ?_)) ⟨⟨_, rfl, imp_app1 (x := ((i : Int) + (k : Nat)).tmod m) (range_succ_map _ k) rfl⟩, (by repeat (first | exact trivial | refine And.intro ⟨_, rfl, Ch.imp_refl _⟩ ?_))⟩
    have hk : k = min m 3 := by
      by_cases c : (m : Int) < 3
      · rw [decide_eq_true c] at e2; simp at e2; omega
      · rw [decide_eq_false c] at e2; simp at e2; omega
    subst hk
    refine T_auto TT_ok rfl ?_
    refine RJ_bs TT_ok 44 (fun _ => cPlace (spP m i)) rfl rfl rfl rfl rfl rfl rfl (fun i hi => by rcases i with _ | i <;> first | rfl | omega) (mu1 := [(50, .arr 0 0 fun _ => [])]) rfl rfl rfl ?_
    refine RJ_auto TT_ok rfl ?_
    refine RJ_appM TT_ok 19 44 45 rfl rfl rfl rfl rfl rfl rfl rfl rfl rfl rfl rfl ⟨by show (((List.range i).map (spP m)).length + 1) * 24 ≤ _; omega, by unfold maxL; omega⟩ ?_
    refine RJ_auto TT_ok rfl ?_
    refine X_view (V_sw 19 45) ?_
    exact X_inv (i + 1) hi (by omega) (by repeat (first | exact trivial | refine And.intro ⟨_, rfl, SV.imp_refl _⟩ ?_)) ⟨⟨_, rfl, imp_app1 (x := spP m i) (range_succ_map _ i) rfl⟩, (by repeat (first | exact trivial | refine And.intro ⟨_, rfl, Ch.imp_refl _⟩ ?_))⟩
  have hi : i = n := by omega
  subst hi
  refine T_auto TT_ok rfl ?_
  refine T_view (V_sw 19 900) ?_
  refine T_ret TT_ok (()) [(4, none), (5, none)] rfl rfl ?_ ?_ ?_
  · exact SVs.imp_refl _
  · exact ⟨⟨_, rfl, Ch.imp_refl _⟩, trivial⟩
  · trivial
theorem spread_c (n m : Nat) (hn : 1 ≤ n ∧ n ≤ 6) (hm : 1 ≤ m ∧ m ≤ 8) : MkL Try.prog 81 [vI n, vI m] 1 cPlace GPlace.z (spreadL n m) := by
  refine con_enter Try.func81 rfl rfl rfl fun B0 r_ D_ w0 => ?_
  refine T_auto TT_ok rfl ?_
  refine T_view (V_nil 5 19 1 (fun i => cPlace (([] : List GPlace).getD i GPlace.z)) rfl rfl rfl rfl) ?_
  refine T_loopA (ι := Nat) (fun i => [(10, vI i), (5, .a (.g 19))]) (fun i => [(19, arrC 1 cPlace GPlace.z ((List.range i).map (spP m)))]) (fun i => i ≤ n) (fun i => n - i) 0 [19] [19] rfl rfl (Nat.zero_le _) (by repeat (first | exact trivial | refine And.intro ⟨_, rfl, SV.imp_refl _⟩ ?_)) (by repeat (first | exact trivial | refine And.intro ⟨_, rfl, Ch.imp_refl _⟩ ?_)) ?_
  intro i h1
  have hl1 : ((List.range i).map (spP m)).length = i := by simp
  refine T_auto TT_ok rfl ?_
  refine T_condD rfl (fun e => ?_) (fun e => ?_)
  · have hi : i < n := by omega
    refine T_auto TT_ok rfl ?_
    refine T_view (V_nilR 7 0 1 (fun i => cInt (([] : List Int).getD i 0)) rfl rfl rfl) ?_
    refine T_view (V_open 7 0 50 rfl rfl rfl rfl rfl rfl) ?_
    refine T_loopA (ι := Nat) (fun k => [(15, vI k)]) (fun k => [(50, arrC 1 cInt 0 ((List.range k).map fun k => ((i : Int) + (k : Nat)).tmod m)), (7, .row [.g 50])]) (fun k => k ≤ min m 3) (fun k => min m 3 - k) 0 [50, 7] [50] rfl rfl (Nat.zero_le _) (by repeat (first | exact trivial | refine And.intro ⟨_, rfl, SV.imp_refl _⟩ ?_)) (by repeat (first | exact trivial | refine And.intro ⟨_, rfl, Ch.imp_refl _⟩ ?_)) ?_
    intro k h2
    have hl2 : ((List.range k).map fun k => ((i : Int) + (k : Nat)).tmod m).length = k := by simp
    refine T_auto TT_ok rfl ?_
    refine T_condD rfl (fun e2 => ?_) (fun e2 => ?_)
    · have hk : k < min m 3 := by
        split at e2 <;> omega
      refine T_auto TT_ok rfl ?_
      refine T_drawL TT_ok [50] [0, 1, 2, 3, 4, 5, 6, 7, 8, 9, 10] rfl rfl fun B0 H0 => ?_
      refine DJ_one 7 rfl (by kernel_rfl) (OJ_bs TT_ok 25 (fun _ => cInt (((i : Int) + (k : Nat)).tmod m)) rfl rfl rfl rfl rfl rfl rfl (fun j hj => by rcases j with _ | j <;> first | rfl | omega) (mu1 := []) rfl rfl rfl (SJ_dj ?_))
      refine DJ_one 8 rfl (by kernel_rfl) (OJ_appM TT_ok 50 25 26 rfl rfl rfl rfl rfl rfl rfl rfl rfl rfl rfl rfl ⟨by show (((List.range k).map fun k => ((i : Int) + (k : Nat)).tmod m).length + 1) * 8 ≤ _; omega, by unfold maxL; omega⟩ (SJ_dj ?_))
      refine DJ_onL TT_ok [9, 10] rfl ?_
      refine DJ_sw2 10 rfl (by kernel_rfl) (by kernel_rfl) (OJ_M TT_ok rfl rfl rfl rfl rfl rfl (SJ_sw [] fun B0 H0 => ?_))
      refine DJ_endA TT_ok rfl ?_
      refine X_view (V_sw 50 26) ?_
      exact X_inv (k + 1) hk (by omega) (by repeat (first | exact trivial | refine And.intro ⟨_, rfl, SV.imp_refl _⟩ ?_)) ⟨⟨_, rfl, imp_app1 (x := ((i : Int) + (k : Nat)).tmod m) (range_succ_map _ k) rfl⟩, (by repeat (first | exact trivial | refine And.intro ⟨_, rfl, Ch.imp_refl _⟩ ?_))⟩
    have hk : k = min m 3 := by
      split at e2 <;> omega
    subst hk
    refine T_auto TT_ok rfl ?_
    refine RJ_bs TT_ok 31 (fun _ => cPlace (spP m i)) rfl rfl rfl rfl rfl rfl rfl (fun i hi => by rcases i with _ | i <;> first | rfl | omega) (mu1 := [(50, .arr 0 0 fun _ => [])]) rfl rfl rfl ?_
    refine RJ_auto TT_ok rfl ?_
    refine RJ_appM TT_ok 19 31 32 rfl rfl rfl rfl rfl rfl rfl rfl rfl rfl rfl rfl ⟨by show (((List.range i).map (spP m)).length + 1) * 24 ≤ _; omega, by unfold maxL; omega⟩ ?_
    refine RJ_auto TT_ok rfl ?_
    refine X_view (V_sw 19 32) ?_
    exact X_inv (i + 1) hi (by omega) (by repeat (first | exact trivial | refine And.intro ⟨_, rfl, SV.imp_refl _⟩ ?_)) ⟨⟨_, rfl, imp_app1 (x := spP m i) (range_succ_map _ i) rfl⟩, (by repeat (first | exact trivial | refine And.intro ⟨_, rfl, Ch.imp_refl _⟩ ?_))⟩
  have hi : i = n := by omega
  subst hi
  refine T_auto TT_ok rfl ?_
  refine T_view (V_sw 19 900) ?_
  refine T_ret TT_ok (()) [(4, none)] rfl rfl ?_ ?_ ?_
  · exact SVs.imp_refl _
  · exact ⟨⟨_, rfl, Ch.imp_refl _⟩, trivial⟩
  · trivial
end Go.Proofs.Ytiegllklalplnaa
