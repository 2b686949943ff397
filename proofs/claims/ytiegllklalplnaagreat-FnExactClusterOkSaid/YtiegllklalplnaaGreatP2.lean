
/-
  Transactions: are they right, what was told of them.
-/
import Derived.Test.YtiegllklalplnaaGreatP1
namespace Go.Proofs.YtiegllklalplnaaGreat
open Go Go.RowKit
set_option linter.unusedVariables false
set_option linter.unusedSimpArgs false
set_option maxRecDepth 4000


open Classical in
noncomputable def dec (p : Prop) : Bool := if p then true else false
theorem dec_true {p : Prop} (h : p) : dec p = true := by simp [dec, h]
theorem dec_false {p : Prop} (h : ¬ p) : dec p = false := by simp [dec, h]
theorem dec_iff {p : Prop} : dec p = true ↔ p := by simp [dec]
theorem dec_not {p : Prop} : dec p = false ↔ ¬ p := by simp [dec]
def lessN (a b : GNote) : Prop := a.region < b.region ∨ a.region = b.region ∧ a.slot < b.slot
def lessS (a b : GSet) : Prop := a.region < b.region ∨ a.region = b.region ∧ a.slot < b.slot
/-- rising, and each right -/
def readsOk (xs : List GNote) (n : Nat) : Prop := ∀ j, j < n → noteB (xs.getD j GNote.z) = true ∧ (0 < j → lessN (xs.getD (j - 1) GNote.z) (xs.getD j GNote.z))
def setsOk (xs : List GSet) (n : Nat) : Prop := ∀ j, j < n → setB (xs.getD j GSet.z) = true ∧ (0 < j → lessS (xs.getD (j - 1) GSet.z) (xs.getD j GSet.z))
def headOk (t : GTx) : Prop := (1 ≤ t.id ∧ t.id ≤ 1000000) ∧ (0 ≤ t.home ∧ t.home ≤ 7) ∧ (1 ≤ t.phase ∧ t.phase ≤ 9) ∧ (0 ≤ t.done ∧ t.done ≤ 1000) ∧ (0 ≤ t.stamp ∧ t.stamp ≤ 1000000) ∧ t.reads.length ≤ 12 ∧ t.sets.length ≤ 12
def TxOk (t : GTx) : Prop := headOk t ∧ readsOk t.reads t.reads.length ∧ setsOk t.sets t.sets.length
theorem readsOk.succ {xs : List GNote} {i : Nat} (h : readsOk xs i) (h1 : noteB (xs.getD i GNote.z) = true) (h2 : 0 < i → lessN (xs.getD (i - 1) GNote.z) (xs.getD i GNote.z)) : readsOk xs (i + 1) := fun j hj => by
  rcases Nat.lt_succ_iff_lt_or_eq.1 hj with h3 | h3
  · exact h j h3
  · subst h3; exact ⟨h1, h2⟩
theorem setsOk.succ {xs : List GSet} {i : Nat} (h : setsOk xs i) (h1 : setB (xs.getD i GSet.z) = true) (h2 : 0 < i → lessS (xs.getD (i - 1) GSet.z) (xs.getD i GSet.z)) : setsOk xs (i + 1) := fun j hj => by
  rcases Nat.lt_succ_iff_lt_or_eq.1 hj with h3 | h3
  · exact h j h3
  · subst h3; exact ⟨h1, h2⟩
theorem toNat_pred {i : Nat} (h : 0 < i) : ((i : Int) - 1).toNat = i - 1 := by omega

theorem spec_TxOk_q (t : GTx) : Ans Tryz.prog 52 [] [vR (cTx t)] [] (vB (dec (TxOk t))) := by
  refine con_enter Tryz.func52 rfl rfl rfl fun B0 r D w0 => ?_
  refine T_auto TT_ok rfl ?_
  refine RJ_Q TT_ok (spec_l1Id_q _) rfl rfl rfl rfl rfl ?_
  refine RJ_Q TT_ok (spec_l1Machine_q _) rfl rfl rfl rfl rfl ?_
  refine RJ_Q TT_ok (spec_l1In_q _ _ _) rfl rfl rfl rfl rfl ?_
  refine RJ_Q TT_ok (spec_l1In_q _ _ _) rfl rfl rfl rfl rfl ?_
  refine RJ_Q TT_ok (spec_l1In_q _ _ _) rfl rfl rfl rfl rfl ?_
  refine T_cond rfl (fun e => ?_) (fun e => ?_)
  · refine T_auto TT_ok rfl ?_
    refine (?_ : ¬ TxOk t → _) ?_
    · intro hf
      exact T_ansB TT_ok [(2, none)] rfl rfl ((dec_false hf).symm)
    intro h
    obtain ⟨⟨h1, h2, h3, h4, h5, h6, h7⟩, _⟩ := h
    simp only [inB_iff.2 h1, inB_iff.2 h2, inB_iff.2 h3, inB_iff.2 h4, inB_iff.2 h5] at e
    simp at e
    omega
  have hH : headOk t := by
    simp only [Bool.cond_true_left, Bool.or_eq_false_iff, Bool.not_eq_false', inB_iff, decide_eq_false_iff_not] at e
    unfold headOk
    omega
  clear e
  have hr1 : t.reads.length ≤ 12 := hH.2.2.2.2.2.1
  have hr2 : t.sets.length ≤ 12 := hH.2.2.2.2.2.2
  refine T_auto TT_ok rfl ?_
  refine T_loopA (ι := Nat) (fun i => [(3, vI i)]) (fun _ => []) (fun i => i ≤ t.reads.length ∧ readsOk t.reads i) (fun i => t.reads.length - i) 0 [] [] rfl rfl ⟨Nat.zero_le _, fun j hj => absurd hj (Nat.not_lt_zero _)⟩ (by repeat (first | exact trivial | refine And.intro ⟨_, rfl, SV.imp_refl _⟩ ?_)) (by repeat (first | exact trivial | refine And.intro ⟨_, rfl, Ch.imp_refl _⟩ ?_)) ?_
  intro i ⟨h1, h2⟩
  refine T_auto TT_ok rfl ?_
  refine T_condD rfl (fun e => ?_) (fun e => ?_)
  · have hi : i < t.reads.length := by omega
    refine T_auto TT_ok rfl ?_
    refine T_drawA TT_ok [] rfl rfl fun B0 H0 => ?_
    refine DJ_Q TT_ok (spec_l7Note_q _) rfl rfl rfl rfl rfl rfl ?_
    refine DJ_Q TT_ok (spec_l7Less_q _ _ _ _) rfl rfl rfl rfl rfl rfl ?_
    refine DJ_endA TT_ok rfl ?_
    refine T_cond rfl (fun e1 => ?_) (fun e1 => ?_) <;> simp only [Int.toNat_natCast] at e1
    · refine T_auto TT_ok rfl ?_
      refine (?_ : ¬ TxOk t → _) ?_
      · intro hf
        exact T_ansB TT_ok [(2, none)] rfl rfl ((dec_false hf).symm)
      intro h
      obtain ⟨g1, g2⟩ := h.2.1 i hi
      simp only [g1] at e1
      by_cases hp : 0 < i
      · rw [toNat_pred hp, lessB_iff.2 (g2 hp)] at e1
        simp at e1
      · simp [show i = 0 from by omega] at e1
    · have g1 : noteB (t.reads.getD i GNote.z) = true := by
        cases hb : noteB (t.reads.getD i GNote.z) with
        | true => rfl
        | false => rw [hb] at e1; simp at e1
      have g2 : 0 < i → lessN (t.reads.getD (i - 1) GNote.z) (t.reads.getD i GNote.z) := fun hp => by
        rw [toNat_pred hp] at e1
        simp only [g1] at e1
        refine lessB_iff.1 ?_
        simpa [hp] using e1
      refine T_auto TT_ok rfl ?_
      exact X_inv (i + 1) ⟨hi, readsOk.succ h2 g1 g2⟩ (by omega) (by repeat (first | exact trivial | refine And.intro ⟨_, rfl, SV.imp_refl _⟩ ?_)) (by repeat (first | exact trivial | refine And.intro ⟨_, rfl, Ch.imp_refl _⟩ ?_))
  have hi : i = t.reads.length := by omega
  subst hi
  have h3 : readsOk t.reads t.reads.length := h2
  clear h2 h1 e
  refine T_auto TT_ok rfl ?_
  refine T_loopA (ι := Nat) (fun i => [(5, vI i)]) (fun _ => []) (fun i => i ≤ t.sets.length ∧ setsOk t.sets i) (fun i => t.sets.length - i) 0 [] [] rfl rfl ⟨Nat.zero_le _, fun j hj => absurd hj (Nat.not_lt_zero _)⟩ (by repeat (first | exact trivial | refine And.intro ⟨_, rfl, SV.imp_refl _⟩ ?_)) (by repeat (first | exact trivial | refine And.intro ⟨_, rfl, Ch.imp_refl _⟩ ?_)) ?_
  intro i ⟨h1, h4⟩
  refine T_auto TT_ok rfl ?_
  refine T_condD rfl (fun e => ?_) (fun e => ?_)
  · have hi : i < t.sets.length := by omega
    refine T_auto TT_ok rfl ?_
    refine T_drawA TT_ok [] rfl rfl fun B0 H0 => ?_
    refine DJ_Q TT_ok (spec_SetOk_q _) rfl rfl rfl rfl rfl rfl ?_
    refine DJ_Q TT_ok (spec_l7Less_q _ _ _ _) rfl rfl rfl rfl rfl rfl ?_
    refine DJ_endA TT_ok rfl ?_
    refine T_cond rfl (fun e1 => ?_) (fun e1 => ?_) <;> simp only [Int.toNat_natCast] at e1
    · refine T_auto TT_ok rfl ?_
      refine (?_ : ¬ TxOk t → _) ?_
      · intro hf
        exact T_ansB TT_ok [(2, none)] rfl rfl ((dec_false hf).symm)
      intro h
      obtain ⟨g1, g2⟩ := h.2.2 i hi
      simp only [g1] at e1
      by_cases hp : 0 < i
      · rw [toNat_pred hp, lessB_iff.2 (g2 hp)] at e1
        simp at e1
      · simp [show i = 0 from by omega] at e1
    · have g1 : setB (t.sets.getD i GSet.z) = true := by
        cases hb : setB (t.sets.getD i GSet.z) with
        | true => rfl
        | false => rw [hb] at e1; simp at e1
      have g2 : 0 < i → lessS (t.sets.getD (i - 1) GSet.z) (t.sets.getD i GSet.z) := fun hp => by
        rw [toNat_pred hp] at e1
        simp only [g1] at e1
        refine lessB_iff.1 ?_
        simpa [hp] using e1
      refine T_auto TT_ok rfl ?_
      exact X_inv (i + 1) ⟨hi, setsOk.succ h4 g1 g2⟩ (by omega) (by repeat (first | exact trivial | refine And.intro ⟨_, rfl, SV.imp_refl _⟩ ?_)) (by repeat (first | exact trivial | refine And.intro ⟨_, rfl, Ch.imp_refl _⟩ ?_))
  have hi : i = t.sets.length := by omega
  subst hi
  have h5 : setsOk t.sets t.sets.length := h4
  clear h4 h1 e
  refine T_auto TT_ok rfl ?_
  exact T_ansB TT_ok [(2, none)] rfl rfl ((dec_true ⟨hH, h3, h5⟩).symm)
theorem impl_isTx_q (t : GTx) : Ans Tryz.prog 120 [] [vR (cTx t)] [] (vB (dec (TxOk t))) := by
  refine con_enter Tryz.func120 rfl rfl rfl fun B0 r D w0 => ?_
  refine T_auto TT_ok rfl ?_
  refine RJ_Q TT_ok (impl_isId_q _) rfl rfl rfl rfl rfl ?_
  refine RJ_Q TT_ok (impl_isMachine_q _) rfl rfl rfl rfl rfl ?_
  refine RJ_Q TT_ok (impl_within_q _ _ _) rfl rfl rfl rfl rfl ?_
  refine RJ_Q TT_ok (impl_within_q _ _ _) rfl rfl rfl rfl rfl ?_
  refine RJ_Q TT_ok (impl_within_q _ _ _) rfl rfl rfl rfl rfl ?_
  refine T_cond rfl (fun e => ?_) (fun e => ?_)
  · refine T_auto TT_ok rfl ?_
    refine (?_ : ¬ TxOk t → _) ?_
    · intro hf
      exact T_ansB TT_ok [(2, none)] rfl rfl ((dec_false hf).symm)
    intro h
    obtain ⟨⟨h1, h2, h3, h4, h5, h6, h7⟩, _⟩ := h
    simp only [inB_iff.2 h1, inB_iff.2 h2, inB_iff.2 h3, inB_iff.2 h4, inB_iff.2 h5] at e
    simp at e
    omega
  have hH : headOk t := by
    simp only [Bool.cond_true_left, Bool.or_eq_false_iff, Bool.not_eq_false', inB_iff, decide_eq_false_iff_not] at e
    unfold headOk
    omega
  clear e
  have hr1 : t.reads.length ≤ 12 := hH.2.2.2.2.2.1
  have hr2 : t.sets.length ≤ 12 := hH.2.2.2.2.2.2
  refine T_auto TT_ok rfl ?_
  refine T_loopA (ι := Nat) (fun i => [(50, vI i)]) (fun _ => []) (fun i => i ≤ t.reads.length ∧ readsOk t.reads i) (fun i => t.reads.length - i) 0 [] [] rfl rfl ⟨Nat.zero_le _, fun j hj => absurd hj (Nat.not_lt_zero _)⟩ (by repeat (first | exact trivial | refine And.intro ⟨_, rfl, SV.imp_refl _⟩ ?_)) (by repeat (first | exact trivial | refine And.intro ⟨_, rfl, Ch.imp_refl _⟩ ?_)) ?_
  intro i ⟨h1, h2⟩
  refine T_auto TT_ok rfl ?_
  refine T_condD rfl (fun e => ?_) (fun e => ?_)
  · have hi : i < t.reads.length := by omega
    refine T_auto TT_ok rfl ?_
    refine T_drawA TT_ok [] rfl rfl fun B0 H0 => ?_
    refine DJ_Q TT_ok (impl_isNote_q _) rfl rfl rfl rfl rfl rfl ?_
    refine DJ_Q TT_ok (compareCells_q _ _ _ _) rfl rfl rfl rfl rfl rfl ?_
    refine DJ_endA TT_ok rfl ?_
    refine T_cond rfl (fun e1 => ?_) (fun e1 => ?_) <;> simp only [Int.toNat_natCast] at e1
    · refine T_auto TT_ok rfl ?_
      refine (?_ : ¬ TxOk t → _) ?_
      · intro hf
        exact T_ansB TT_ok [(2, none)] rfl rfl ((dec_false hf).symm)
      intro h
      obtain ⟨g1, g2⟩ := h.2.1 i hi
      simp only [cmpC_ge, g1] at e1
      by_cases hp : 0 < i
      · rw [toNat_pred hp, lessB_iff.2 (g2 hp)] at e1
        simp at e1
      · simp [show i = 0 from by omega] at e1
    · have g1 : noteB (t.reads.getD i GNote.z) = true := by
        cases hb : noteB (t.reads.getD i GNote.z) with
        | true => rfl
        | false => rw [hb] at e1; simp at e1
      have g2 : 0 < i → lessN (t.reads.getD (i - 1) GNote.z) (t.reads.getD i GNote.z) := fun hp => by
        rw [toNat_pred hp] at e1
        simp only [cmpC_ge, g1] at e1
        refine lessB_iff.1 ?_
        simpa [hp] using e1
      refine T_auto TT_ok rfl ?_
      exact X_inv (i + 1) ⟨hi, readsOk.succ h2 g1 g2⟩ (by omega) (by repeat (first | exact trivial | refine And.intro ⟨_, rfl, SV.imp_refl _⟩ ?_)) (by repeat (first | exact trivial | refine And.intro ⟨_, rfl, Ch.imp_refl _⟩ ?_))
  have hi : i = t.reads.length := by omega
  subst hi
  have h3 : readsOk t.reads t.reads.length := h2
  clear h2 h1 e
  refine T_auto TT_ok rfl ?_
  refine T_loopA (ι := Nat) (fun i => [(88, vI i)]) (fun _ => []) (fun i => i ≤ t.sets.length ∧ setsOk t.sets i) (fun i => t.sets.length - i) 0 [] [] rfl rfl ⟨Nat.zero_le _, fun j hj => absurd hj (Nat.not_lt_zero _)⟩ (by repeat (first | exact trivial | refine And.intro ⟨_, rfl, SV.imp_refl _⟩ ?_)) (by repeat (first | exact trivial | refine And.intro ⟨_, rfl, Ch.imp_refl _⟩ ?_)) ?_
  intro i ⟨h1, h4⟩
  refine T_auto TT_ok rfl ?_
  refine T_condD rfl (fun e => ?_) (fun e => ?_)
  · have hi : i < t.sets.length := by omega
    refine T_auto TT_ok rfl ?_
    refine T_drawA TT_ok [] rfl rfl fun B0 H0 => ?_
    refine DJ_Q TT_ok (impl_isSet_q _) rfl rfl rfl rfl rfl rfl ?_
    refine DJ_Q TT_ok (compareCells_q _ _ _ _) rfl rfl rfl rfl rfl rfl ?_
    refine DJ_endA TT_ok rfl ?_
    refine T_cond rfl (fun e1 => ?_) (fun e1 => ?_) <;> simp only [Int.toNat_natCast] at e1
    · refine T_auto TT_ok rfl ?_
      refine (?_ : ¬ TxOk t → _) ?_
      · intro hf
        exact T_ansB TT_ok [(2, none)] rfl rfl ((dec_false hf).symm)
      intro h
      obtain ⟨g1, g2⟩ := h.2.2 i hi
      simp only [cmpC_ge, g1] at e1
      by_cases hp : 0 < i
      · rw [toNat_pred hp, lessB_iff.2 (g2 hp)] at e1
        simp at e1
      · simp [show i = 0 from by omega] at e1
    · have g1 : setB (t.sets.getD i GSet.z) = true := by
        cases hb : setB (t.sets.getD i GSet.z) with
        | true => rfl
        | false => rw [hb] at e1; simp at e1
      have g2 : 0 < i → lessS (t.sets.getD (i - 1) GSet.z) (t.sets.getD i GSet.z) := fun hp => by
        rw [toNat_pred hp] at e1
        simp only [cmpC_ge, g1] at e1
        refine lessB_iff.1 ?_
        simpa [hp] using e1
      refine T_auto TT_ok rfl ?_
      exact X_inv (i + 1) ⟨hi, setsOk.succ h4 g1 g2⟩ (by omega) (by repeat (first | exact trivial | refine And.intro ⟨_, rfl, SV.imp_refl _⟩ ?_)) (by repeat (first | exact trivial | refine And.intro ⟨_, rfl, Ch.imp_refl _⟩ ?_))
  have hi : i = t.sets.length := by omega
  subst hi
  have h5 : setsOk t.sets t.sets.length := h4
  clear h4 h1 e
  refine T_auto TT_ok rfl ?_
  exact T_ansB TT_ok [(2, none)] rfl rfl ((dec_true ⟨hH, h3, h5⟩).symm)
open Classical in
/-- what a client was told: 1 committed, 2 aborted, 0 nothing -/
noncomputable def toldM (t : GTx) : Int := if TxOk t then (if t.phase = 5 ∧ t.done > 0 ∨ t.phase = 6 ∨ t.phase = 7 then 1 else if t.phase = 8 ∨ t.phase = 9 then 2 else 0) else -1
def doneB (t : GTx) : Bool := decide (t.phase = 5 ∧ t.done > 0 ∨ t.phase = 6 ∨ t.phase = 7)
end Go.Proofs.YtiegllklalplnaaGreat
