
/-
  What a transaction wants, on both sides; the laws' helpers at numbers.
-/
import Derived.Test.YtiegllklalplnaaGreatP5
import Derived.Test.YtiegllklalplnaaGreatG2
namespace Go.Proofs.YtiegllklalplnaaGreat
open Go Go.RowKit
set_option linter.unusedVariables false
set_option linter.unusedSimpArgs false
set_option maxRecDepth 4000

theorem mem_getD {xs : List Int} {i : Nat} (h : i < xs.length) : xs.getD i 0 ∈ xs := by simp [h]
theorem mem_iff_getD {xs : List Int} {n : Int} : n ∈ xs ↔ ∃ i, i < xs.length ∧ xs.getD i 0 = n := by
  rw [List.mem_iff_getElem]
  constructor
  · rintro ⟨i, h, e⟩; exact ⟨i, h, by simp [h, e]⟩
  · rintro ⟨i, h, e⟩; exact ⟨i, h, by simpa [h] using e⟩
theorem l3Has_q (xs : List Int) (hl : xs.length ≤ 1048576) (n : Int) : Ans Tryz.prog 105 [] [vL 1 cInt 0 xs, vI n] [] (vB (decide (n ∈ xs))) := by
  refine con_enter Tryz.func105 rfl rfl rfl fun B0 r D w0 => ?_
  refine T_auto TT_ok rfl ?_
  refine T_loopA (ι := Nat) (fun i => [(5, vI i)]) (fun _ => []) (fun i => i ≤ xs.length ∧ ∀ j, j < i → xs.getD j 0 ≠ n) (fun i => xs.length - i) 0 [] [] rfl rfl ⟨Nat.zero_le _, fun j hj => absurd hj (Nat.not_lt_zero _)⟩ (by repeat (first | exact trivial | refine And.intro ⟨_, rfl, SV.imp_refl _⟩ ?_)) (by repeat (first | exact trivial | refine And.intro ⟨_, rfl, Ch.imp_refl _⟩ ?_)) ?_
  intro i ⟨h1, h2⟩
  refine T_auto TT_ok rfl ?_
  refine T_condD rfl (fun e => ?_) (fun e => ?_)
  · have hi : i < xs.length := by omega
    refine T_auto TT_ok rfl ?_
    refine T_condE rfl (fun e2 => ?_) (fun e2 => ?_)
    · refine T_auto TT_ok rfl ?_
      exact T_ansB TT_ok [(4, none)] rfl rfl ((decide_eq_true (mem_iff_getD.2 ⟨i, hi, e2⟩)).symm)
    · refine T_auto TT_ok rfl ?_
      exact X_inv (i + 1) ⟨hi, before_succ h2 e2⟩ (by omega) (by repeat (first | exact trivial | refine And.intro ⟨_, rfl, SV.imp_refl _⟩ ?_)) (by repeat (first | exact trivial | refine And.intro ⟨_, rfl, Ch.imp_refl _⟩ ?_))
  · refine T_auto TT_ok rfl ?_
    exact T_ansB TT_ok [(4, none)] rfl rfl ((decide_eq_false fun h => by obtain ⟨j, j1, j2⟩ := mem_iff_getD.1 h; exact h2 j (by omega) j2).symm)
abbrev regsOf (t : GTx) : List Int := t.sets.map GSet.region
theorem regsOf_at (t : GTx) (i : Nat) : (regsOf t).getD i 0 = (t.sets.getD i GSet.z).region := by
  simp only [regsOf, List.getD_eq_getElem?_getD, List.getElem?_map]
  cases t.sets[i]? <;> rfl
theorem regsOf_len (t : GTx) : (regsOf t).length = t.sets.length := List.length_map _
theorem wants_m (t : GTx) (hl : t.sets.length ≤ 1048576) : MkL Tryz.prog 144 [vP (cTx t)] 1 cInt 0 (cmI (regsOf t) (regsOf t).length) := by
  have hln := regsOf_len t
  refine con_enter Tryz.func144 rfl rfl rfl fun B0 r D w0 => ?_
  refine T_auto TT_ok rfl ?_
  refine T_view (V_nil 3 7 1 (fun i => cInt (([] : List Int).getD i 0)) rfl rfl rfl rfl) ?_
  refine T_loopA (ι := Nat) (fun i => [(11, vI i), (3, .a (.g 7))]) (fun i => [(7, arrC 1 cInt 0 ((regsOf t).take i))]) (fun i => i ≤ t.sets.length) (fun i => t.sets.length - i) 0 [7] [7] rfl rfl (Nat.zero_le _) (by repeat (first | exact trivial | refine And.intro ⟨_, rfl, SV.imp_refl _⟩ ?_)) (by repeat (first | exact trivial | refine And.intro ⟨_, rfl, Ch.imp_refl _⟩ ?_)) ?_
  intro i h1
  refine T_auto TT_ok rfl ?_
  refine T_condD rfl (fun e => ?_) (fun e => ?_)
  · have hi : i < t.sets.length := by omega
    have hle : ((regsOf t).take i).length ≤ i := by rw [List.length_take]; omega
    refine T_auto TT_ok rfl ?_
    refine RJ_bs TT_ok 18 (fun _ => cInt (t.sets.getD i GSet.z).region) rfl rfl rfl rfl rfl rfl rfl (fun i hi => by rcases i with _ | i <;> first | rfl | omega) (mu1 := []) rfl rfl rfl ?_
    refine RJ_auto TT_ok rfl ?_
    refine RJ_appM TT_ok 7 18 19 rfl rfl rfl rfl rfl rfl rfl rfl rfl rfl rfl rfl ⟨by simp; omega, by unfold maxL; omega⟩ ?_
    refine RJ_auto TT_ok rfl ?_
    refine X_view (V_sw 7 19) ?_
    exact X_inv (i + 1) hi (by omega) (by repeat (first | exact trivial | refine And.intro ⟨_, rfl, SV.imp_refl _⟩ ?_)) ⟨⟨_, rfl, imp_app1 (x := (t.sets.getD i GSet.z).region) (by rw [take_succ_getD (z := 0) (by omega), regsOf_at]) rfl⟩, (by repeat (first | exact trivial | refine And.intro ⟨_, rfl, Ch.imp_refl _⟩ ?_))⟩
  · have hi : i = t.sets.length := by omega
    subst hi
    rw [List.take_of_length_le (by omega)]
    refine T_auto TT_ok rfl ?_
    refine RJ_C TT_ok (Con.sw 900 7 (Con.sw 901 22 (compact_c (regsOf t) (by omega)))) rfl rfl (SVs.imp_refl _) (fun _ => rfl) rfl rfl rfl fun _ _ => ?_
    refine RJ_auto TT_ok rfl ?_
    refine T_view (V_sw 22 900) ?_
    refine T_ret TT_ok (()) [(2, none)] rfl rfl ?_ ?_ ?_
    · exact SVs.imp_refl _
    · exact ⟨⟨_, rfl, Ch.imp_refl _⟩, trivial⟩
    · trivial
open Classical in
noncomputable def wantsM (t : GTx) : List Int := if TxOk t then cmI (regsOf t) (regsOf t).length else []
theorem wants_eq {t : GTx} (h : TxOk t) : wantsF (regsOf t) t.sets.length = cmI (regsOf t) (regsOf t).length := by
  rw [regsOf_len]
  refine (wantsF_cm (by rw [regsOf_len]; exact Nat.le_refl _) fun j h1 h2 => ?_).1
  rw [regsOf_at, regsOf_at]
  have := (h.2.2 j h2).2 h1
  unfold lessS at this
  omega
theorem wantsM_le (t : GTx) : (wantsM t).length ≤ t.sets.length := by
  unfold wantsM; split
  · have := cmI_le (xs := regsOf t) (k := (regsOf t).length); rw [regsOf_len] at this; rw [regsOf_len]; exact this
  · exact Nat.zero_le _
theorem eqInt64S_q (xs : List Int) (hl : xs.length ≤ 1048576) : Ans Tryz.prog 23 [] [vL 1 cInt 0 xs, vL 1 cInt 0 xs] [] (vB true) := by
  refine con_enter Tryz.func23 rfl rfl rfl fun B0 r D w0 => ?_
  refine T_auto TT_ok rfl ?_
  refine T_condN rfl (fun e => absurd rfl e) (fun _ => ?_)
  refine T_auto TT_ok rfl ?_
  refine T_loopA (ι := Nat) (fun i => [(5, vI i)]) (fun _ => []) (fun i => i ≤ xs.length) (fun i => xs.length - i) 0 [] [] rfl rfl (Nat.zero_le _) (by repeat (first | exact trivial | refine And.intro ⟨_, rfl, SV.imp_refl _⟩ ?_)) (by repeat (first | exact trivial | refine And.intro ⟨_, rfl, Ch.imp_refl _⟩ ?_)) ?_
  intro i h1
  refine T_auto TT_ok rfl ?_
  refine T_condD rfl (fun e => ?_) (fun e => ?_)
  · have hi : i < xs.length := by omega
    refine T_auto TT_ok rfl ?_
    refine T_drawA TT_ok [] rfl rfl fun B0 H0 => ?_
    refine DJ_endA TT_ok rfl ?_
    refine T_condN rfl (fun e => absurd rfl e) (fun _ => ?_)
    refine T_auto TT_ok rfl ?_
    exact X_inv (i + 1) hi (by omega) (by repeat (first | exact trivial | refine And.intro ⟨_, rfl, SV.imp_refl _⟩ ?_)) (by repeat (first | exact trivial | refine And.intro ⟨_, rfl, Ch.imp_refl _⟩ ?_))
  · refine T_auto TT_ok rfl ?_
    exact T_ansB TT_ok [(4, none)] rfl rfl (rfl)
theorem markInt64S_c (xs : List Int) (hl : xs.length ≤ 1048576) (k0 : Int) (h1 : 0 ≤ k0) (h2 : k0 ≤ 1099511627776) : Con Tryz.prog 25 [900] [.a (.g 900), vI k0] [(900, arrC 1 cInt 0 xs)] (fun _ : Unit => True) (fun _ => [vI (k0 + 1 * xs.length)]) fun _ => [(900, .arr 1 xs.length fun j => cInt (k0 + 1 * j))] := by
  refine con_enter Tryz.func25 rfl rfl rfl fun B0 r D w0 => ?_
  refine T_auto TT_ok rfl ?_
  refine T_loopA (ι := Nat) (fun i => [(5, vI i), (1, vI (k0 + 1 * i))]) (fun i => [(900, .arr 1 xs.length fun j => cInt (if j < i then k0 + 1 * (j : Nat) else xs.getD j 0))]) (fun i => i ≤ xs.length) (fun i => xs.length - i) 0 [900] [] rfl rfl (Nat.zero_le _) ⟨⟨_, rfl, SV.imp_refl _⟩, ⟨_, rfl, SV.imp_of (vI_eq (by simp))⟩, trivial⟩ ⟨⟨_, rfl, Ch.imp_arr fun k hk => by rw [if_neg (Nat.not_lt_zero _)]⟩, trivial⟩ ?_
  intro i h3
  refine T_auto TT_ok rfl ?_
  refine T_condD rfl (fun e => ?_) (fun e => ?_)
  · have hi : i < xs.length := by omega
    refine T_auto TT_ok rfl ?_
    exact X_inv (i + 1) hi (by omega) ⟨⟨_, rfl, SV.imp_refl _⟩, ⟨_, rfl, SV.imp_of (vI_eq (by omega))⟩, (by repeat (first | exact trivial | refine And.intro ⟨_, rfl, SV.imp_refl _⟩ ?_))⟩ ⟨⟨_, rfl, Ch.imp_arr fun k hk => fill_step2 (i := i) (k := k) (fun x => cInt x) (fun j => k0 + 1 * (j : Nat)) (o := fun j => xs.getD j 0) (by rfl)⟩, (by repeat (first | exact trivial | refine And.intro ⟨_, rfl, Ch.imp_refl _⟩ ?_))⟩
  · have hi : i = xs.length := by omega
    subst hi
    refine T_auto TT_ok rfl ?_
    refine T_ret TT_ok (()) [(4, none)] rfl rfl ?_ ?_ ?_
    · exact SVs.imp_refl _
    · exact ⟨⟨_, rfl, Ch.imp_arr fun k hk => by rw [if_pos hk]⟩, trivial⟩
    · trivial
theorem heldInt64S_q (n : Nat) (hl : n ≤ 1048576) (k0 : Int) (h1 : 0 ≤ k0) (h2 : k0 ≤ 1099511627776) : Ans Tryz.prog 26 [] [.a (.s .r 1 n fun j => cInt (k0 + 1 * j)), vI k0] [] (vI (k0 + 1 * n)) := by
  refine con_enter Tryz.func26 rfl rfl rfl fun B0 r D w0 => ?_
  refine T_auto TT_ok rfl ?_
  refine T_loopA (ι := Nat) (fun i => [(5, vI i), (1, vI (k0 + 1 * i))]) (fun _ => []) (fun i => i ≤ n) (fun i => n - i) 0 [] [] rfl rfl (Nat.zero_le _) ⟨⟨_, rfl, SV.imp_refl _⟩, ⟨_, rfl, SV.imp_of (vI_eq (by simp))⟩, trivial⟩ (by repeat (first | exact trivial | refine And.intro ⟨_, rfl, Ch.imp_refl _⟩ ?_)) ?_
  intro i h3
  refine T_auto TT_ok rfl ?_
  refine T_condD rfl (fun e => ?_) (fun e => ?_)
  · have hi : i < n := by omega
    refine T_auto TT_ok rfl ?_
    refine T_condN rfl (fun e => absurd rfl e) (fun _ => ?_)
    refine T_auto TT_ok rfl ?_
    exact X_inv (i + 1) hi (by omega) ⟨⟨_, rfl, SV.imp_refl _⟩, ⟨_, rfl, SV.imp_of (vI_eq (by omega))⟩, (by repeat (first | exact trivial | refine And.intro ⟨_, rfl, SV.imp_refl _⟩ ?_))⟩ (by repeat (first | exact trivial | refine And.intro ⟨_, rfl, Ch.imp_refl _⟩ ?_))
  · have hi : i = n := by omega
    subst hi
    refine T_auto TT_ok rfl ?_
    exact T_ansI TT_ok [(4, none)] rfl rfl (rfl)
end Go.Proofs.YtiegllklalplnaaGreat
