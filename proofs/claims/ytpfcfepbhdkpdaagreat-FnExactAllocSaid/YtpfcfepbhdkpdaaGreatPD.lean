
/-
  slices.Compact at int64; what a transaction wants, on both sides.
  What a transaction wants, on both sides; the laws' helpers at numbers.
-/
import Derived.Test.YtpfcfepbhdkpdaaGreatPC
import Derived.Test.YtpfcfepbhdkpdaaGreatPB
namespace Go.Proofs.YtpfcfepbhdkpdaaGreat
open Go Go.RowKit
set_option linter.unusedVariables false
set_option linter.unusedSimpArgs false

section
set_option maxRecDepth 4000

def cmI (xs : List Int) : Nat → List Int
  | 0 => []
  | i + 1 => if i = 0 ∨ xs.getD i 0 ≠ xs.getD (i - 1) 0 then cmI xs i ++ [xs.getD i 0] else cmI xs i
theorem cmI_yes {xs : List Int} {i : Nat} (h : i = 0 ∨ xs.getD i 0 ≠ xs.getD (i - 1) 0) : cmI xs (i + 1) = cmI xs i ++ [xs.getD i 0] := by rw [cmI, if_pos h]
theorem cmI_no {xs : List Int} {i : Nat} (h : 0 < i) (e : xs.getD i 0 = xs.getD (i - 1) 0) : cmI xs (i + 1) = cmI xs i := by
  rw [cmI, if_neg]
  rintro (h1 | h1)
  · omega
  · exact h1 e
theorem cmI_take {xs : List Int} : ∀ {k : Nat}, k ≤ xs.length → (∀ j, 1 ≤ j → j < k → xs.getD j 0 ≠ xs.getD (j - 1) 0) → cmI xs k = xs.take k
  | 0, _, _ => by simp [cmI]
  | k + 1, hk, h => by
    rw [cmI_yes, cmI_take (by omega) fun j h1 h2 => h j h1 (by omega), take_succ_getD (z := 0) (by omega)]
    by_cases c : k = 0
    · exact .inl c
    · exact .inr (h k (by omega) (by omega))
theorem cmI_le {xs : List Int} : ∀ {k : Nat}, (cmI xs k).length ≤ k
  | 0 => Nat.le_refl _
  | k + 1 => by
    have := cmI_le (xs := xs) (k := k)
    rw [cmI]; split
    · simp; omega
    · omega
def wantsF (l : List Int) : Nat → List Int
  | 0 => []
  | i + 1 => if l.getD i 0 ∈ wantsF l i then wantsF l i else wantsF l i ++ [l.getD i 0]
theorem wantsF_le {xs : List Int} : ∀ {k : Nat}, (wantsF xs k).length ≤ k
  | 0 => Nat.le_refl _
  | k + 1 => by
    have := wantsF_le (xs := xs) (k := k)
    rw [wantsF]; split
    · omega
    · simp; omega
/-- where numbers do not fall, one that is there stands right before -/
theorem wantsF_cm {l : List Int} : ∀ {k : Nat}, k ≤ l.length → (∀ j, 0 < j → j < k → l.getD (j - 1) 0 ≤ l.getD j 0) → wantsF l k = cmI l k ∧ (0 < k → l.getD (k - 1) 0 ∈ wantsF l k ∧ ∀ x ∈ wantsF l k, x ≤ l.getD (k - 1) 0)
  | 0, _, _ => ⟨rfl, fun h => absurd h (Nat.lt_irrefl _)⟩
  | k + 1, hk, h => by
    obtain ⟨h1, h2⟩ := wantsF_cm (l := l) (k := k) (by omega) fun j j1 j2 => h j j1 (by omega)
    by_cases c : l.getD k 0 ∈ wantsF l k
    · have hk0 : 0 < k := by
        rcases Nat.eq_zero_or_pos k with e | e
        · subst e; cases c
        · exact e
      have e : l.getD k 0 = l.getD (k - 1) 0 := Int.le_antisymm ((h2 hk0).2 _ c) (h k hk0 (by omega))
      refine ⟨by rw [wantsF, if_pos c, h1, cmI_no hk0 e], fun _ => ?_⟩
      rw [wantsF, if_pos c, Nat.add_sub_cancel, e]
      exact h2 hk0
    · refine ⟨?_, fun _ => ?_⟩
      · rw [wantsF, if_neg c, h1, cmI_yes]
        rcases Nat.eq_zero_or_pos k with e | e
        · exact .inl e
        · right; intro e2; rw [e2] at c; exact c (h2 e).1
      · rw [wantsF, if_neg c, Nat.add_sub_cancel]
        refine ⟨by simp, fun x hx => ?_⟩
        rw [List.mem_append] at hx
        rcases hx with hx | hx
        · rcases Nat.eq_zero_or_pos k with e | e
          · subst e; cases hx
          · exact Int.le_trans ((h2 e).2 x hx) (h k e (by omega))
        · simp at hx; rw [hx]; exact Int.le_refl _
end

section
set_option maxRecDepth 4000

theorem mem_getD {xs : List Int} {i : Nat} (h : i < xs.length) : xs.getD i 0 ∈ xs := by simp [h]
theorem mem_iff_getD {xs : List Int} {n : Int} : n ∈ xs ↔ ∃ i, i < xs.length ∧ xs.getD i 0 = n := by
  rw [List.mem_iff_getElem]
  constructor
  · rintro ⟨i, h, e⟩; exact ⟨i, h, by simp [h, e]⟩
  · rintro ⟨i, h, e⟩; exact ⟨i, h, by simpa [h] using e⟩
theorem l3Has_q (xs : List Int) (hl : xs.length ≤ 1048576) (n : Int) : Ans Tryz.prog 112 [] [vL 1 cInt 0 xs, vI n] [] (vB (decide (n ∈ xs))) := by
  refine con_enter Tryz.func112 rfl rfl rfl fun B0 r_ D_ w0 => ?_
  refine T_auto TT_ok rfl ?_
  refine T_loopA (ι := Nat) (fun i => [(5, vI i)]) (fun _ => []) (fun i => i ≤ xs.length ∧ ∀ j, j < i → xs.getD j 0 ≠ n) (fun i => xs.length - i) 0 [] [] rfl rfl ⟨Nat.zero_le _, fun j hj => absurd hj (Nat.not_lt_zero _)⟩ (by repeat (first | exact trivial | refine And.intro ⟨_, rfl, SV.imp_refl _⟩ ?_)) (by repeat (first | exact trivial | refine And.intro ⟨_, rfl, Ch.imp_refl _⟩ ?_)) ?_
  intro i ⟨h1, h2⟩
  refine T_auto TT_ok rfl ?_
  refine T_condD rfl (fun e => ?_) (fun e => ?_)
  · have hi : i < xs.length := by omega
    refine T_auto TT_ok rfl ?_
    refine T_condE rfl (fun e2 => ?_) (fun e2 => ?_)
    · refine T_auto TT_ok rfl ?_
      exact T_ansB TT_ok [(4, none)] rfl rfl ((decide_eq_true (mem_iff_getD.2 ⟨i, hi, e2⟩)).symm)
    · refine T_auto TT_ok rfl ?_
      exact X_inv (i + 1) ⟨hi, before_succ h2 e2⟩ (by omega) (by repeat (first | exact trivial | refine And.intro ⟨_, rfl, SV.imp_refl _⟩ ?_)) (by repeat (first | exact trivial | refine And.intro ⟨_, rfl, Ch.imp_refl _⟩ ?_))
  · refine T_auto TT_ok rfl ?_
    exact T_ansB TT_ok [(4, none)] rfl rfl ((decide_eq_false fun h => by obtain ⟨j, j1, j2⟩ := mem_iff_getD.1 h; exact h2 j (by omega) j2).symm)
abbrev regsOf (t : GTx) : List Int := t.sets.map GSet.region
theorem regsOf_at (t : GTx) (i : Nat) : (regsOf t).getD i 0 = (t.sets.getD i GSet.z).region := by
  simp only [regsOf, List.getD_eq_getElem?_getD, List.getElem?_map]
  cases t.sets[i]? <;> rfl
theorem regsOf_len (t : GTx) : (regsOf t).length = t.sets.length := List.length_map _
open Classical in
noncomputable def wantsM (t : GTx) : List Int := if TxOk t then cmI (regsOf t) (regsOf t).length else []
theorem wants_eq {t : GTx} (h : TxOk t) : wantsF (regsOf t) t.sets.length = cmI (regsOf t) (regsOf t).length := by
  rw [regsOf_len]
  refine (wantsF_cm (by rw [regsOf_len]; exact Nat.le_refl _) fun j h1 h2 => ?_).1
  rw [regsOf_at, regsOf_at]
  have := (h.2.2 j h2).2 h1
  unfold lessS at this
  omega
theorem wantsM_le (t : GTx) : (wantsM t).length ≤ t.sets.length := by
  unfold wantsM; split
  · have := cmI_le (xs := regsOf t) (k := (regsOf t).length); rw [regsOf_len] at this; rw [regsOf_len]; exact this
  · exact Nat.zero_le _
theorem eqInt64S_q (xs : List Int) (hl : xs.length ≤ 1048576) : Ans Tryz.prog 154 [] [vL 1 cInt 0 xs, vL 1 cInt 0 xs] [] (vB true) := by
  refine con_enter Tryz.func154 rfl rfl rfl fun B0 r_ D_ w0 => ?_
  refine T_auto TT_ok rfl ?_
  refine T_condN rfl (fun e => absurd rfl e) (fun _ => ?_)
  refine T_auto TT_ok rfl ?_
  refine T_loopA (ι := Nat) (fun i => [(5, vI i)]) (fun _ => []) (fun i => i ≤ xs.length) (fun i => xs.length - i) 0 [] [] rfl rfl (Nat.zero_le _) (by repeat (first | exact trivial | refine And.intro ⟨_, rfl, SV.imp_refl _⟩ ?_)) (by repeat (first | exact trivial | refine And.intro ⟨_, rfl, Ch.imp_refl _⟩ ?_)) ?_
  intro i h1
  refine T_auto TT_ok rfl ?_
  refine T_condD rfl (fun e => ?_) (fun e => ?_)
  · have hi : i < xs.length := by omega
    refine T_auto TT_ok rfl ?_
    refine T_drawA TT_ok [] rfl rfl fun B0 H0 => ?_
    refine DJ_endA TT_ok rfl ?_
    refine T_condN rfl (fun e => absurd rfl e) (fun _ => ?_)
    refine T_auto TT_ok rfl ?_
    exact X_inv (i + 1) hi (by omega) (by repeat (first | exact trivial | refine And.intro ⟨_, rfl, SV.imp_refl _⟩ ?_)) (by repeat (first | exact trivial | refine And.intro ⟨_, rfl, Ch.imp_refl _⟩ ?_))
  · refine T_auto TT_ok rfl ?_
    exact T_ansB TT_ok [(4, none)] rfl rfl (rfl)
theorem markInt64S_c (xs : List Int) (hl : xs.length ≤ 1048576) (k0 : Int) (h1 : 0 ≤ k0) (h2 : k0 ≤ 1099511627776) : Con Tryz.prog 91 [900] [.a (.g 900), vI k0] [(900, arrC 1 cInt 0 xs)] (fun _ : Unit => True) (fun _ => [vI (k0 + 1 * xs.length)]) fun _ => [(900, .arr 1 xs.length fun j => cInt (k0 + 1 * j))] := by
  refine con_enter Tryz.func91 rfl rfl rfl fun B0 r_ D_ w0 => ?_
  refine T_auto TT_ok rfl ?_
  refine T_loopA (ι := Nat) (fun i => [(5, vI i), (1, vI (k0 + 1 * i))]) (fun i => [(900, .arr 1 xs.length fun j => cInt (if j < i then k0 + 1 * (j : Nat) else xs.getD j 0))]) (fun i => i ≤ xs.length) (fun i => xs.length - i) 0 [900] [] rfl rfl (Nat.zero_le _) ⟨⟨_, rfl, SV.imp_refl _⟩, ⟨_, rfl, SV.imp_of (vI_eq (by simp))⟩, trivial⟩ ⟨⟨_, rfl, Ch.imp_arr fun k hk => by rw [if_neg (Nat.not_lt_zero _)]⟩, trivial⟩ ?_
  intro i h3
  refine T_auto TT_ok rfl ?_
  refine T_condD rfl (fun e => ?_) (fun e => ?_)
  · have hi : i < xs.length := by omega
    refine T_auto TT_ok rfl ?_
    exact X_inv (i + 1) hi (by omega) ⟨⟨_, rfl, SV.imp_refl _⟩, ⟨_, rfl, SV.imp_of (vI_eq (by omega))⟩, (by repeat (first | exact trivial | refine And.intro ⟨_, rfl, SV.imp_refl _⟩ ?_))⟩ ⟨⟨_, rfl, Ch.imp_arr fun k hk => fill_step2 (i := i) (k := k) (fun x => cInt x) (fun j => k0 + 1 * (j : Nat)) (o := fun j => xs.getD j 0) (by rfl)⟩, (by repeat (first | exact trivial | refine And.intro ⟨_, rfl, Ch.imp_refl _⟩ ?_))⟩
  · have hi : i = xs.length := by omega
    subst hi
    refine T_auto TT_ok rfl ?_
    refine T_ret TT_ok (()) [(4, none)] rfl rfl ?_ ?_ ?_
    · exact SVs.imp_refl _
    · exact ⟨⟨_, rfl, Ch.imp_arr fun k hk => by rw [if_pos hk]⟩, trivial⟩
    · trivial
theorem heldInt64S_q (n : Nat) (hl : n ≤ 1048576) (k0 : Int) (h1 : 0 ≤ k0) (h2 : k0 ≤ 1099511627776) : Ans Tryz.prog 96 [] [.a (.s .r 1 n fun j => cInt (k0 + 1 * j)), vI k0] [] (vI (k0 + 1 * n)) := by
  refine con_enter Tryz.func96 rfl rfl rfl fun B0 r_ D_ w0 => ?_
  refine T_auto TT_ok rfl ?_
  refine T_loopA (ι := Nat) (fun i => [(5, vI i), (1, vI (k0 + 1 * i))]) (fun _ => []) (fun i => i ≤ n) (fun i => n - i) 0 [] [] rfl rfl (Nat.zero_le _) ⟨⟨_, rfl, SV.imp_refl _⟩, ⟨_, rfl, SV.imp_of (vI_eq (by simp))⟩, trivial⟩ (by repeat (first | exact trivial | refine And.intro ⟨_, rfl, Ch.imp_refl _⟩ ?_)) ?_
  intro i h3
  refine T_auto TT_ok rfl ?_
  refine T_condD rfl (fun e => ?_) (fun e => ?_)
  · have hi : i < n := by omega
    refine T_auto TT_ok rfl ?_
    refine T_condN rfl (fun e => absurd rfl e) (fun _ => ?_)
    refine T_auto TT_ok rfl ?_
    exact X_inv (i + 1) hi (by omega) ⟨⟨_, rfl, SV.imp_refl _⟩, ⟨_, rfl, SV.imp_of (vI_eq (by omega))⟩, (by repeat (first | exact trivial | refine And.intro ⟨_, rfl, SV.imp_refl _⟩ ?_))⟩ (by repeat (first | exact trivial | refine And.intro ⟨_, rfl, Ch.imp_refl _⟩ ?_))
  · have hi : i = n := by omega
    subst hi
    refine T_auto TT_ok rfl ?_
    exact T_ansI TT_ok [(4, none)] rfl rfl (rfl)
end
end Go.Proofs.YtpfcfepbhdkpdaaGreat
