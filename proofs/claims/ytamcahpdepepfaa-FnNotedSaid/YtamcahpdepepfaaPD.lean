
/-
  slices.Compact at int64; what a transaction wants, on both sides.
  What a transaction wants, on both sides; the laws' helpers at numbers.
-/
import Derived.Test.YtamcahpdepepfaaPC
import Derived.Test.YtamcahpdepepfaaPB
namespace Go.Proofs.Ytamcahpdepepfaa
open Go Go.RowKit
set_option linter.unusedVariables false
set_option linter.unusedSimpArgs false

section
set_option maxRecDepth 4000

def cmI (xs : List Int) : Nat → List Int
  | 0 => []
  | i + 1 => if i = 0 ∨ xs.getD i 0 ≠ xs.getD (i - 1) 0 then cmI xs i ++ [xs.getD i 0] else cmI xs i
theorem cmI_yes {xs : List Int} {i : Nat} (h : i = 0 ∨ xs.getD i 0 ≠ xs.getD (i - 1) 0) : cmI xs (i + 1) = cmI xs i ++ [xs.getD i 0] := by rw [cmI, if_pos h]
theorem cmI_no {xs : List Int} {i : Nat} (h : 0 < i) (e : xs.getD i 0 = xs.getD (i - 1) 0) : cmI xs (i + 1) = cmI xs i := by
  rw [cmI, if_neg]
  rintro (h1 | h1)
  · omega
  · exact h1 e
theorem cmI_take {xs : List Int} : ∀ {k : Nat}, k ≤ xs.length → (∀ j, 1 ≤ j → j < k → xs.getD j 0 ≠ xs.getD (j - 1) 0) → cmI xs k = xs.take k
  | 0, _, _ => by simp [cmI]
  | k + 1, hk, h => by
    rw [cmI_yes, cmI_take (by omega) fun j h1 h2 => h j h1 (by omega), take_succ_getD (z := 0) (by omega)]
    by_cases c : k = 0
    · exact .inl c
    · exact .inr (h k (by omega) (by omega))
theorem cmI_le {xs : List Int} : ∀ {k : Nat}, (cmI xs k).length ≤ k
  | 0 => Nat.le_refl _
  | k + 1 => by
    have := cmI_le (xs := xs) (k := k)
    rw [cmI]; split
    · simp; omega
    · omega
theorem compact_c (xs : List Int) (hl : xs.length ≤ 1048576) : Con Try.prog 51 [900] [.a (.g 900)] [(900, arrC 1 cInt 0 xs)] (fun _ : Unit => True) (fun _ => [.a (.g 901)]) fun _ => [(901, arrC 1 cInt 0 (cmI xs xs.length))] := by
  refine con_enter Try.func51 rfl rfl rfl fun B0 r_ D_ w0 => ?_
  refine T_auto TT_ok rfl ?_
  refine T_condD rfl (fun e => ?_) (fun e => ?_)
  · have hq : cmI xs xs.length = xs := by
      rw [cmI_take (Nat.le_refl _) fun j h1 h2 => by omega, List.take_length]
    refine T_auto TT_ok rfl ?_
    refine T_view (V_ren 2 900 901 rfl rfl rfl rfl rfl rfl) ?_
    refine T_ret TT_ok (()) [(2, none)] rfl rfl ?_ ?_ ?_
    · exact SVs.imp_refl _
    · exact ⟨⟨_, rfl, imp_list hq.symm⟩, trivial⟩
    · trivial
  refine T_auto TT_ok rfl ?_
  refine T_loopA (ι := Nat) (fun k => [(3, vI k)]) (fun _ => []) (fun k => 1 ≤ k ∧ k ≤ xs.length ∧ ∀ j, 1 ≤ j → j < k → xs.getD j 0 ≠ xs.getD (j - 1) 0) (fun k => xs.length - k) 1 [] [] rfl rfl ⟨Nat.le_refl _, by omega, fun j h1 h2 => by omega⟩ (by repeat (first | exact trivial | refine And.intro ⟨_, rfl, SV.imp_refl _⟩ ?_)) (by repeat (first | exact trivial | refine And.intro ⟨_, rfl, Ch.imp_refl _⟩ ?_)) ?_
  intro k ⟨h1, h2, h3⟩
  have hpred : ((k : Int) - 1).toNat = k - 1 := by omega
  refine T_auto TT_ok rfl ?_
  refine T_condD rfl (fun e => ?_) (fun e => ?_)
  · have hk : k < xs.length := by omega
    refine T_auto TT_ok rfl ?_
    refine T_drawA TT_ok [] rfl rfl fun B0 H0 => ?_
    refine DJ_endA TT_ok rfl ?_
    refine T_condE rfl (fun e2 => ?_) (fun e2 => ?_)
    · rw [hpred] at e2
      have e2 : xs.getD k 0 = xs.getD (k - 1) 0 := e2
      have hC : cmI xs (k + 1) = xs.take k := by rw [cmI_no h1 e2, cmI_take h2 h3]
      refine T_auto TT_ok rfl ?_
      refine T_loopA (ι := Nat × (Nat → Int)) (fun y => [(5, vI y.1), (3, vI (cmI xs (k + y.1)).length)]) (fun y => [(900, .arr 1 xs.length fun i => cInt (y.2 i))])
        (fun y => 1 ≤ y.1 ∧ k + y.1 ≤ xs.length ∧ (cmI xs (k + y.1)).length < k + y.1 ∧ (∀ i, i < (cmI xs (k + y.1)).length → y.2 i = (cmI xs (k + y.1)).getD i 0) ∧ ∀ i, (cmI xs (k + y.1)).length ≤ i → i < xs.length → y.2 i = xs.getD i 0)
        (fun y => xs.length - y.1) (1, fun i => xs.getD i 0) [900] [] rfl rfl ⟨Nat.le_refl _, hk, by dsimp only; rw [hC, List.length_take]; omega, fun i hi => ?_, fun _ _ _ => rfl⟩ ⟨⟨_, rfl, SV.imp_refl _⟩, ⟨_, rfl, SV.imp_of (vI_eq ?_)⟩, trivial⟩ (by repeat (first | exact trivial | refine And.intro ⟨_, rfl, Ch.imp_refl _⟩ ?_)) ?_
      · dsimp only at hi ⊢
        rw [hC] at hi ⊢
        exact (getD_take hi).symm
      · dsimp only
        rw [hC, List.length_take, Nat.min_eq_left h2]
      rintro ⟨j, h⟩ ⟨g1, g2, g3, g4, g5⟩
      dsimp only at g1 g2 g3 g4 g5 ⊢
      refine T_auto TT_ok rfl ?_
      refine T_condD rfl (fun e3 => ?_) (fun e3 => ?_)
      · have hj : k + j < xs.length := by omega
        have hpj : ((k : Int) + ((j : Int) - 1)).toNat = k + j - 1 := by omega
        refine T_auto TT_ok rfl ?_
        refine T_drawA TT_ok [] rfl rfl fun B0 H0 => ?_
        refine DJ_endA TT_ok rfl ?_
        refine T_condN rfl (fun e4 => ?_) (fun e4 => ?_)
        · rw [hpj] at e4
          have e4 : h (k + j) ≠ h (k + j - 1) := e4
          rw [g5 _ (by omega) hj, g5 _ (by omega) (by omega)] at e4
          have hF := cmI_yes (.inr e4)
          refine T_auto TT_ok rfl ?_
          refine X_inv (j + 1, fun i => if i = (cmI xs (k + j)).length then h (k + j) else h i) ⟨by omega, hj, ?_, fun i hi => ?_, fun i i1 i2 => ?_⟩ (by show xs.length - (j + 1) < xs.length - j; omega) ?_ ⟨⟨_, rfl, Ch.imp_arr fun i hi => ?_⟩, (by repeat (first | exact trivial | refine And.intro ⟨_, rfl, Ch.imp_refl _⟩ ?_))⟩
          · show (cmI xs (k + j + 1)).length < _
            rw [hF, List.length_append, List.length_singleton]; omega
          · have hi : i < (cmI xs (k + j + 1)).length := hi
            show (if _ then _ else _) = (cmI xs (k + j + 1)).getD i 0
            rw [hF, List.length_append, List.length_singleton] at hi
            rw [hF]
            by_cases c : i = (cmI xs (k + j)).length
            · rw [if_pos c, c, getD_app_eq, g5 _ (by omega) hj]
            · rw [if_neg c, getD_app_lt (by omega)]; exact g4 i (by omega)
          · have i1 : (cmI xs (k + j + 1)).length ≤ i := i1
            rw [hF, List.length_append, List.length_singleton] at i1
            show (if _ then _ else _) = _
            rw [if_neg (by omega)]; exact g5 i (by omega) i2
          · refine And.intro ⟨_, rfl, SV.imp_refl _⟩ (And.intro ⟨_, rfl, SV.imp_of (vI_eq ?_)⟩ (by repeat (first | exact trivial | refine And.intro ⟨_, rfl, SV.imp_refl _⟩ ?_)))
            show _ = (((cmI xs (k + j + 1)).length : Nat) : Int)
            rw [hF, List.length_append, List.length_singleton]; simp
          · dsimp only
            by_cases c : i = (cmI xs (k + j)).length
            · subst c
              simp only [Int.toNat_natCast, Nat.beq_refl, cond_true, if_true]
              rfl
            · rw [if_neg c]
              have : Nat.beq i (((cmI xs (k + j)).length : Nat) : Int).toNat = false := by
                simp only [Int.toNat_natCast]
                cases e : Nat.beq i (cmI xs (k + j)).length with
                | false => rfl
                | true => exact absurd (Nat.eq_of_beq_eq_true e) c
              rw [this]; rfl
        · rw [hpj] at e4
          have e4 : h (k + j) = h (k + j - 1) := e4
          rw [g5 _ (by omega) hj, g5 _ (by omega) (by omega)] at e4
          have hF := cmI_no (by omega) e4
          refine T_auto TT_ok rfl ?_
          refine X_inv (j + 1, h) ⟨by omega, hj, by show (cmI xs (k + j + 1)).length < _; rw [hF]; omega, fun i hi => ?_, fun i i1 i2 => ?_⟩ (by show xs.length - (j + 1) < xs.length - j; omega) ?_ (by repeat (first | exact trivial | refine And.intro ⟨_, rfl, Ch.imp_refl _⟩ ?_))
          · have hi : i < (cmI xs (k + j + 1)).length := hi
            show _ = (cmI xs (k + j + 1)).getD i 0
            rw [hF] at hi ⊢; exact g4 i hi
          · have i1 : (cmI xs (k + j + 1)).length ≤ i := i1
            rw [hF] at i1; exact g5 i i1 i2
          · refine And.intro ⟨_, rfl, SV.imp_refl _⟩ (And.intro ⟨_, rfl, SV.imp_of (vI_eq ?_)⟩ (by repeat (first | exact trivial | refine And.intro ⟨_, rfl, SV.imp_refl _⟩ ?_)))
            show _ = (((cmI xs (k + j + 1)).length : Nat) : Int)
            rw [hF]
      · have hj : k + j = xs.length := by omega
        rw [hj] at g3 g4 g5 ⊢
        refine T_auto TT_ok rfl ?_
        refine RJ_clear TT_ok 56 900 rfl rfl rfl rfl rfl rfl ⟨by omega, by omega, by omega⟩ rfl rfl rfl rfl ?_
        refine RJ_auto TT_ok rfl ?_
        refine T_view (V_cut 2 900 901 rfl rfl rfl ⟨by omega, by omega, by omega⟩ rfl rfl rfl) ?_
        refine T_ret TT_ok (()) [(2, none)] rfl rfl ?_ ?_ ?_
        · exact SVs.imp_refl _
        · refine ⟨⟨_, rfl, Ch.imp_len (by omega) fun i hi => ?_⟩, trivial⟩
          dsimp only
          rw [if_neg (by omega), g4 _ (by omega)]
          congr 2; omega
        · trivial
    · rw [hpred] at e2
      refine T_auto TT_ok rfl ?_
      refine X_inv (k + 1) ⟨by omega, hk, fun j j1 j2 => ?_⟩ (by omega) (by repeat (first | exact trivial | refine And.intro ⟨_, rfl, SV.imp_refl _⟩ ?_)) (by repeat (first | exact trivial | refine And.intro ⟨_, rfl, Ch.imp_refl _⟩ ?_))
      by_cases c : j = k
      · subst c; exact e2
      · exact h3 j j1 (by omega)
  · have hk : k = xs.length := by omega
    subst hk
    refine T_auto TT_ok rfl ?_
    refine T_view (V_ren 2 900 901 rfl rfl rfl rfl rfl rfl) ?_
    refine T_ret TT_ok (()) [(2, none)] rfl rfl ?_ ?_ ?_
    · exact SVs.imp_refl _
    · exact ⟨⟨_, rfl, imp_list (by rw [cmI_take h2 h3, List.take_length])⟩, trivial⟩
    · trivial
def wantsF (l : List Int) : Nat → List Int
  | 0 => []
  | i + 1 => if l.getD i 0 ∈ wantsF l i then wantsF l i else wantsF l i ++ [l.getD i 0]
theorem wantsF_le {xs : List Int} : ∀ {k : Nat}, (wantsF xs k).length ≤ k
  | 0 => Nat.le_refl _
  | k + 1 => by
    have := wantsF_le (xs := xs) (k := k)
    rw [wantsF]; split
    · omega
    · simp; omega
/-- where numbers do not fall, one that is there stands right before -/
theorem wantsF_cm {l : List Int} : ∀ {k : Nat}, k ≤ l.length → (∀ j, 0 < j → j < k → l.getD (j - 1) 0 ≤ l.getD j 0) → wantsF l k = cmI l k ∧ (0 < k → l.getD (k - 1) 0 ∈ wantsF l k ∧ ∀ x ∈ wantsF l k, x ≤ l.getD (k - 1) 0)
  | 0, _, _ => ⟨rfl, fun h => absurd h (Nat.lt_irrefl _)⟩
  | k + 1, hk, h => by
    obtain ⟨h1, h2⟩ := wantsF_cm (l := l) (k := k) (by omega) fun j j1 j2 => h j j1 (by omega)
    by_cases c : l.getD k 0 ∈ wantsF l k
    · have hk0 : 0 < k := by
        rcases Nat.eq_zero_or_pos k with e | e
        · subst e; cases c
        · exact e
      have e : l.getD k 0 = l.getD (k - 1) 0 := Int.le_antisymm ((h2 hk0).2 _ c) (h k hk0 (by omega))
      refine ⟨by rw [wantsF, if_pos c, h1, cmI_no hk0 e], fun _ => ?_⟩
      rw [wantsF, if_pos c, Nat.add_sub_cancel, e]
      exact h2 hk0
    · refine ⟨?_, fun _ => ?_⟩
      · rw [wantsF, if_neg c, h1, cmI_yes]
        rcases Nat.eq_zero_or_pos k with e | e
        · exact .inl e
        · right; intro e2; rw [e2] at c; exact c (h2 e).1
      · rw [wantsF, if_neg c, Nat.add_sub_cancel]
        refine ⟨by simp, fun x hx => ?_⟩
        rw [List.mem_append] at hx
        rcases hx with hx | hx
        · rcases Nat.eq_zero_or_pos k with e | e
          · subst e; cases hx
          · exact Int.le_trans ((h2 e).2 x hx) (h k e (by omega))
        · simp at hx; rw [hx]; exact Int.le_refl _
end

section
set_option maxRecDepth 4000

theorem mem_getD {xs : List Int} {i : Nat} (h : i < xs.length) : xs.getD i 0 ∈ xs := by simp [h]
theorem mem_iff_getD {xs : List Int} {n : Int} : n ∈ xs ↔ ∃ i, i < xs.length ∧ xs.getD i 0 = n := by
  rw [List.mem_iff_getElem]
  constructor
  · rintro ⟨i, h, e⟩; exact ⟨i, h, by simp [h, e]⟩
  · rintro ⟨i, h, e⟩; exact ⟨i, h, by simpa [h] using e⟩
theorem l3Has_q (xs : List Int) (hl : xs.length ≤ 1048576) (n : Int) : Ans Try.prog 59 [] [vL 1 cInt 0 xs, vI n] [] (vB (decide (n ∈ xs))) := by
  refine con_enter Try.func59 rfl rfl rfl fun B0 r_ D_ w0 => ?_
  refine T_auto TT_ok rfl ?_
  refine T_loopA (ι := Nat) (fun i => [(5, vI i)]) (fun _ => []) (fun i => i ≤ xs.length ∧ ∀ j, j < i → xs.getD j 0 ≠ n) (fun i => xs.length - i) 0 [] [] rfl rfl ⟨Nat.zero_le _, fun j hj => absurd hj (Nat.not_lt_zero _)⟩ (by repeat (first | exact trivial | refine And.intro ⟨_, rfl, SV.imp_refl _⟩ ?_)) (by repeat (first | exact trivial | refine And.intro ⟨_, rfl, Ch.imp_refl _⟩ ?_)) ?_
  intro i ⟨h1, h2⟩
  refine T_auto TT_ok rfl ?_
  refine T_condD rfl (fun e => ?_) (fun e => ?_)
  · have hi : i < xs.length := by omega
    refine T_auto TT_ok rfl ?_
    refine T_condE rfl (fun e2 => ?_) (fun e2 => ?_)
    · refine T_auto TT_ok rfl ?_
      exact T_ansB TT_ok [(4, none)] rfl rfl ((decide_eq_true (mem_iff_getD.2 ⟨i, hi, e2⟩)).symm)
    · refine T_auto TT_ok rfl ?_
      exact X_inv (i + 1) ⟨hi, before_succ h2 e2⟩ (by omega) (by repeat (first | exact trivial | refine And.intro ⟨_, rfl, SV.imp_refl _⟩ ?_)) (by repeat (first | exact trivial | refine And.intro ⟨_, rfl, Ch.imp_refl _⟩ ?_))
  · refine T_auto TT_ok rfl ?_
    exact T_ansB TT_ok [(4, none)] rfl rfl ((decide_eq_false fun h => by obtain ⟨j, j1, j2⟩ := mem_iff_getD.1 h; exact h2 j (by omega) j2).symm)
abbrev regsOf (t : GTx) : List Int := t.sets.map GSet.region
theorem regsOf_at (t : GTx) (i : Nat) : (regsOf t).getD i 0 = (t.sets.getD i GSet.z).region := by
  simp only [regsOf, List.getD_eq_getElem?_getD, List.getElem?_map]
  cases t.sets[i]? <;> rfl
theorem regsOf_len (t : GTx) : (regsOf t).length = t.sets.length := List.length_map _
theorem l7Wants_m (t : GTx) (hl : t.sets.length ≤ 1048576) : MkL Try.prog 27 [vR (cTx t)] 1 cInt 0 (wantsF (regsOf t) t.sets.length) := by
  refine con_enter Try.func27 rfl rfl rfl fun B0 r_ D_ w0 => ?_
  refine T_auto TT_ok rfl ?_
  refine RJ_bs TT_ok 5 (fun i => cInt (([] : List Int).getD i 0)) rfl rfl rfl rfl rfl rfl rfl (fun i hi => absurd hi (Nat.not_lt_zero _)) (mu1 := []) rfl rfl rfl ?_
  refine RJ_auto TT_ok rfl ?_
  refine T_loopA (ι := Nat) (fun i => [(4, vI i), (3, .a (.g 5))]) (fun i => [(5, arrC 1 cInt 0 (wantsF (regsOf t) i))]) (fun i => i ≤ t.sets.length) (fun i => t.sets.length - i) 0 [5] [5] rfl rfl (Nat.zero_le _) (by repeat (first | exact trivial | refine And.intro ⟨_, rfl, SV.imp_refl _⟩ ?_)) (by repeat (first | exact trivial | refine And.intro ⟨_, rfl, Ch.imp_refl _⟩ ?_)) ?_
  intro i h1
  refine T_auto TT_ok rfl ?_
  refine T_condD rfl (fun e => ?_) (fun e => ?_)
  · have hi : i < t.sets.length := by omega
    have hle := wantsF_le (xs := regsOf t) (k := i)
    refine T_auto TT_ok rfl ?_
    refine RJ_Q TT_ok (l3Has_q _ (by omega) _) rfl rfl rfl rfl rfl ?_
    refine T_condX rfl (fun e2 => ?_) (fun e2 => ?_)
    · have e3 : ¬ (regsOf t).getD i 0 ∈ wantsF (regsOf t) i := by rw [regsOf_at]; exact of_decide_eq_false e2
      refine T_auto TT_ok rfl ?_
      refine RJ_bs TT_ok 29 (fun _ => cInt (t.sets.getD i GSet.z).region) rfl rfl rfl rfl rfl rfl rfl (fun i hi => by rcases i with _ | i <;> first | rfl | omega) (mu1 := []) rfl rfl rfl ?_
      refine RJ_auto TT_ok rfl ?_
      refine RJ_appM TT_ok 5 29 30 rfl rfl rfl rfl rfl rfl rfl rfl rfl rfl rfl rfl ⟨by simp; omega, by unfold maxL; omega⟩ ?_
      refine RJ_auto TT_ok rfl ?_
      refine X_view (V_sw 5 30) ?_
      exact X_inv (i + 1) hi (by omega) (by repeat (first | exact trivial | refine And.intro ⟨_, rfl, SV.imp_refl _⟩ ?_)) ⟨⟨_, rfl, imp_app1 (x := (t.sets.getD i GSet.z).region) (by rw [wantsF, if_neg e3, regsOf_at]) rfl⟩, (by repeat (first | exact trivial | refine And.intro ⟨_, rfl, Ch.imp_refl _⟩ ?_))⟩
    · have e3 : (regsOf t).getD i 0 ∈ wantsF (regsOf t) i := by rw [regsOf_at]; exact of_decide_eq_true e2
      refine T_auto TT_ok rfl ?_
      exact X_inv (i + 1) hi (by omega) (by repeat (first | exact trivial | refine And.intro ⟨_, rfl, SV.imp_refl _⟩ ?_)) ⟨⟨_, rfl, imp_list (by rw [wantsF, if_pos e3])⟩, (by repeat (first | exact trivial | refine And.intro ⟨_, rfl, Ch.imp_refl _⟩ ?_))⟩
  · have hi : i = t.sets.length := by omega
    subst hi
    refine T_auto TT_ok rfl ?_
    refine T_view (V_sw 5 900) ?_
    refine T_ret TT_ok (()) [(2, none)] rfl rfl ?_ ?_ ?_
    · exact SVs.imp_refl _
    · exact ⟨⟨_, rfl, Ch.imp_refl _⟩, trivial⟩
    · trivial
theorem wants_m (t : GTx) (hl : t.sets.length ≤ 1048576) : MkL Try.prog 24 [vP (cTx t)] 1 cInt 0 (cmI (regsOf t) (regsOf t).length) := by
  have hln := regsOf_len t
  refine con_enter Try.func24 rfl rfl rfl fun B0 r_ D_ w0 => ?_
  refine T_auto TT_ok rfl ?_
  refine T_view (V_nil 3 7 1 (fun i => cInt (([] : List Int).getD i 0)) rfl rfl rfl rfl) ?_
  refine T_loopA (ι := Nat) (fun i => [(11, vI i), (3, .a (.g 7))]) (fun i => [(7, arrC 1 cInt 0 ((regsOf t).take i))]) (fun i => i ≤ t.sets.length) (fun i => t.sets.length - i) 0 [7] [7] rfl rfl (Nat.zero_le _) (by repeat (first | exact trivial | refine And.intro ⟨_, rfl, SV.imp_refl _⟩ ?_)) (by repeat (first | exact trivial | refine And.intro ⟨_, rfl, Ch.imp_refl _⟩ ?_)) ?_
  intro i h1
  refine T_auto TT_ok rfl ?_
  refine T_condD rfl (fun e => ?_) (fun e => ?_)
  · have hi : i < t.sets.length := by omega
    have hle : ((regsOf t).take i).length ≤ i := by rw [List.length_take]; omega
    refine T_auto TT_ok rfl ?_
    refine RJ_bs TT_ok 18 (fun _ => cInt (t.sets.getD i GSet.z).region) rfl rfl rfl rfl rfl rfl rfl (fun i hi => by rcases i with _ | i <;> first | rfl | omega) (mu1 := []) rfl rfl rfl ?_
    refine RJ_auto TT_ok rfl ?_
    refine RJ_appM TT_ok 7 18 19 rfl rfl rfl rfl rfl rfl rfl rfl rfl rfl rfl rfl ⟨by simp; omega, by unfold maxL; omega⟩ ?_
    refine RJ_auto TT_ok rfl ?_
    refine X_view (V_sw 7 19) ?_
    exact X_inv (i + 1) hi (by omega) (by repeat (first | exact trivial | refine And.intro ⟨_, rfl, SV.imp_refl _⟩ ?_)) ⟨⟨_, rfl, imp_app1 (x := (t.sets.getD i GSet.z).region) (by rw [take_succ_getD (z := 0) (by omega), regsOf_at]) rfl⟩, (by repeat (first | exact trivial | refine And.intro ⟨_, rfl, Ch.imp_refl _⟩ ?_))⟩
  · have hi : i = t.sets.length := by omega
    subst hi
    rw [List.take_of_length_le (by omega)]
    refine T_auto TT_ok rfl ?_
    refine RJ_C TT_ok (Con.sw 900 7 (Con.sw 901 22 (compact_c (regsOf t) (by omega)))) rfl rfl (SVs.imp_refl _) (fun _ => rfl) rfl rfl rfl fun _ _ => ?_
    refine RJ_auto TT_ok rfl ?_
    refine T_view (V_sw 22 900) ?_
    refine T_ret TT_ok (()) [(2, none)] rfl rfl ?_ ?_ ?_
    · exact SVs.imp_refl _
    · exact ⟨⟨_, rfl, Ch.imp_refl _⟩, trivial⟩
    · trivial
open Classical in
noncomputable def wantsM (t : GTx) : List Int := if TxOk t then cmI (regsOf t) (regsOf t).length else []
theorem wants_eq {t : GTx} (h : TxOk t) : wantsF (regsOf t) t.sets.length = cmI (regsOf t) (regsOf t).length := by
  rw [regsOf_len]
  refine (wantsF_cm (by rw [regsOf_len]; exact Nat.le_refl _) fun j h1 h2 => ?_).1
  rw [regsOf_at, regsOf_at]
  have := (h.2.2 j h2).2 h1
  unfold lessS at this
  omega
theorem wantsM_le (t : GTx) : (wantsM t).length ≤ t.sets.length := by
  unfold wantsM; split
  · have := cmI_le (xs := regsOf t) (k := (regsOf t).length); rw [regsOf_len] at this; rw [regsOf_len]; exact this
  · exact Nat.zero_le _
theorem spec_Wants_m (t : GTx) (hl : t.sets.length ≤ 1048576) : MkL Try.prog 10 [vR (cTx t)] 1 cInt 0 (wantsM t) := by
  refine con_enter Try.func10 rfl rfl rfl fun B0 r_ D_ w0 => ?_
  refine T_auto TT_ok rfl ?_
  refine RJ_Q TT_ok (spec_TxOk_q t) rfl rfl rfl rfl rfl ?_
  refine T_condX rfl (fun e => ?_) (fun e => ?_)
  · refine T_auto TT_ok rfl ?_
    refine RJ_bs TT_ok 900 (fun i => cInt (([] : List Int).getD i 0)) rfl rfl rfl rfl rfl rfl rfl (fun i hi => absurd hi (Nat.not_lt_zero _)) (mu1 := []) rfl rfl rfl ?_
    refine RJ_auto TT_ok rfl ?_
    refine T_ret TT_ok (()) [(2, none)] rfl rfl ?_ ?_ ?_
    · exact SVs.imp_refl _
    · exact ⟨⟨_, rfl, imp_list (xs := []) (by rw [wantsM, if_neg (dec_not.1 e)])⟩, trivial⟩
    · trivial
  · refine T_auto TT_ok rfl ?_
    refine RJ_C TT_ok (l7Wants_m t hl) rfl rfl (SVs.imp_refl _) (fun _ => rfl) rfl rfl rfl fun _ _ => ?_
    refine RJ_auto TT_ok rfl ?_
    refine T_ret TT_ok (()) [(2, none)] rfl rfl ?_ ?_ ?_
    · exact SVs.imp_refl _
    · exact ⟨⟨_, rfl, imp_list (by rw [wantsM, if_pos (dec_iff.1 e), wants_eq (dec_iff.1 e)])⟩, trivial⟩
    · trivial
theorem impl_Wants_m (t : GTx) (hl : t.sets.length ≤ 1048576) : MkL Try.prog 7 [vR (cTx t)] 1 cInt 0 (wantsM t) := by
  refine con_enter Try.func7 rfl rfl rfl fun B0 r_ D_ w0 => ?_
  refine T_auto TT_ok rfl ?_
  refine RJ_Q TT_ok (impl_isTx_q t) rfl rfl rfl rfl rfl ?_
  refine T_condX rfl (fun e => ?_) (fun e => ?_)
  · refine T_auto TT_ok rfl ?_
    refine T_view (V_nil 2 900 1 (fun i => cInt (([] : List Int).getD i 0)) rfl rfl rfl rfl) ?_
    refine T_ret TT_ok (()) [(2, none)] rfl rfl ?_ ?_ ?_
    · exact SVs.imp_refl _
    · exact ⟨⟨_, rfl, imp_list (xs := []) (by rw [wantsM, if_neg (dec_not.1 e)])⟩, trivial⟩
    · trivial
  · refine T_auto TT_ok rfl ?_
    refine RJ_C TT_ok (wants_m t hl) rfl rfl (SVs.imp_refl _) (fun _ => rfl) rfl rfl rfl fun _ _ => ?_
    refine RJ_auto TT_ok rfl ?_
    refine T_ret TT_ok (()) [(2, none)] rfl rfl ?_ ?_ ?_
    · exact SVs.imp_refl _
    · exact ⟨⟨_, rfl, imp_list (by rw [wantsM, if_pos (dec_iff.1 e)])⟩, trivial⟩
    · trivial
end
end Go.Proofs.Ytamcahpdepepfaa
