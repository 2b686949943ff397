
/-
  Clusters: are they right, on both sides.
-/
import Derived.Test.YtpfcfepbhdkpdaaGreatP10
import Derived.Test.YtpfcfepbhdkpdaaGreatPE
namespace Go.Proofs.YtpfcfepbhdkpdaaGreat
open Go Go.RowKit
set_option linter.unusedVariables false
set_option linter.unusedSimpArgs false
set_option maxRecDepth 4000

theorem bd_at {α : Type} {N sz : Nat} {enc : α → List D} {z : α} {xs : List α} (h : D.bd N (dL sz enc z xs)) (hz : D.bds N (enc z)) (i : Nat) : D.bds N (enc (xs.getD i z)) := by
  by_cases c : i < xs.length
  · exact h.2 i c
  · rw [List.getD_eq_getElem?_getD, List.getElem?_eq_none (by omega)]; exact hz
def atB (r : Int) (x : GCopy) : Bool := x.region == r
def hasB (m : GMachine) (r : Int) : Bool := m.copies.any (atB r)
theorem idx_lt {α : Type} (p : α → Bool) (z : α) (xs : List α) : decide (idxI p xs < 0) = !xs.any p := by
  rcases idxI_cases p z xs with ⟨h1, h2⟩ | ⟨i, h1, h2, h3, h4⟩
  · rw [any_no h2, h1]; rfl
  · rw [any_at h1 h4, h2]; simp
theorem l6At_q (m : GMachine) (hl : m.copies.length ≤ 1048576) (r0 : Int) : Ans Tryz.prog 110 [] [vR (cMachine m), vI r0] [] (vI (idxI (atB r0) m.copies)) := by
  refine con_enter Tryz.func110 rfl rfl rfl fun B0 r_ D_ w0 => ?_
  refine T_auto TT_ok rfl ?_
  refine T_loopA (ι := Nat) (fun i => [(5, vI i)]) (fun _ => []) (fun i => i ≤ m.copies.length ∧ ∀ j, j < i → atB r0 (m.copies.getD j GCopy.z) = false) (fun i => m.copies.length - i) 0 [] [] rfl rfl ⟨Nat.zero_le _, fun j hj => absurd hj (Nat.not_lt_zero _)⟩ (by repeat (first | exact trivial | refine And.intro ⟨_, rfl, SV.imp_refl _⟩ ?_)) (by repeat (first | exact trivial | refine And.intro ⟨_, rfl, Ch.imp_refl _⟩ ?_)) ?_
  intro i ⟨h1, h2⟩
  refine T_auto TT_ok rfl ?_
  refine T_condD rfl (fun e => ?_) (fun e => ?_)
  · have hi : i < m.copies.length := by omega
    refine T_auto TT_ok rfl ?_
    refine T_cond rfl (fun e2 => ?_) (fun e2 => ?_)
    · refine T_auto TT_ok rfl ?_
      exact T_ansI TT_ok [(4, none)] rfl rfl ((idxI_at (p := atB r0) hi h2 e2).symm)
    · refine T_auto TT_ok rfl ?_
      exact X_inv (i + 1) ⟨hi, before_succ h2 e2⟩ (by omega) (by repeat (first | exact trivial | refine And.intro ⟨_, rfl, SV.imp_refl _⟩ ?_)) (by repeat (first | exact trivial | refine And.intro ⟨_, rfl, Ch.imp_refl _⟩ ?_))
  · refine T_auto TT_ok rfl ?_
    exact T_ansI TT_ok [(4, none)] rfl rfl ((idxI_no fun j hj => h2 j (by omega)).symm)
theorem cells_none_q (m : GMachine) (hl : m.copies.length ≤ 1048576) (r0 : Int) (hn : hasB m r0 = false) : Ans Tryz.prog 77 [] [vP (cMachine m), vI r0] [] (.a (.v (.slice none 0 0))) := by
  refine con_enter Tryz.func77 rfl rfl rfl fun B0 r_ D_ w0 => ?_
  refine T_auto TT_ok rfl ?_
  refine T_loopA (ι := Nat) (fun i => [(12, vI i)]) (fun _ => []) (fun i => i ≤ m.copies.length) (fun i => m.copies.length - i) 0 [] [] rfl rfl (Nat.zero_le _) (by repeat (first | exact trivial | refine And.intro ⟨_, rfl, SV.imp_refl _⟩ ?_)) (by repeat (first | exact trivial | refine And.intro ⟨_, rfl, Ch.imp_refl _⟩ ?_)) ?_
  intro i h1
  refine T_auto TT_ok rfl ?_
  refine T_condD rfl (fun e => ?_) (fun e => ?_)
  · have hi : i < m.copies.length := by omega
    refine T_auto TT_ok rfl ?_
    refine T_cond rfl (fun e2 => ?_) (fun e2 => ?_)
    · have := (any_get (z := GCopy.z) hn i hi).symm.trans e2
      cases this
    · refine T_auto TT_ok rfl ?_
      exact X_inv (i + 1) hi (by omega) (by repeat (first | exact trivial | refine And.intro ⟨_, rfl, SV.imp_refl _⟩ ?_)) (by repeat (first | exact trivial | refine And.intro ⟨_, rfl, Ch.imp_refl _⟩ ?_))
  · refine T_auto TT_ok rfl ?_
    exact T_ans TT_ok [(4, none)] rfl rfl (rfl)
theorem cells_some_q (m : GMachine) (hl : m.copies.length ≤ 1048576) (r0 : Int) (i0 : Nat) (hi0 : i0 < m.copies.length) (hb : ∀ j, j < i0 → atB r0 (m.copies.getD j GCopy.z) = false) (ha : atB r0 (m.copies.getD i0 GCopy.z) = true) : Ans Tryz.prog 77 [] [vP (cMachine m), vI r0] [] (vL 2 cCell GCell.z (m.copies.getD i0 GCopy.z).cells) := by
  refine con_enter Tryz.func77 rfl rfl rfl fun B0 r_ D_ w0 => ?_
  refine T_auto TT_ok rfl ?_
  refine T_loopA (ι := Nat) (fun i => [(12, vI i)]) (fun _ => []) (fun i => i ≤ i0) (fun i => i0 - i) 0 [] [] rfl rfl (Nat.zero_le _) (by repeat (first | exact trivial | refine And.intro ⟨_, rfl, SV.imp_refl _⟩ ?_)) (by repeat (first | exact trivial | refine And.intro ⟨_, rfl, Ch.imp_refl _⟩ ?_)) ?_
  intro i h1
  have hi : i < m.copies.length := by omega
  refine T_auto TT_ok rfl ?_
  refine T_condD rfl (fun e => ?_) (fun e => absurd (by omega : (i : Int) < m.copies.length) e)
  refine T_auto TT_ok rfl ?_
  refine T_cond rfl (fun e2 => ?_) (fun e2 => ?_)
  · have hii : i = i0 := by
      rcases Nat.lt_or_ge i i0 with h | h
      · have := (hb i h).symm.trans e2; cases this
      · omega
    subst hii
    refine T_auto TT_ok rfl ?_
    exact T_ans TT_ok [(4, none)] rfl rfl (rfl)
  · have hlt : i < i0 := by
      rcases Nat.lt_or_ge i i0 with h | h
      · exact h
      · have : i = i0 := by omega
        subst this
        have := ha.symm.trans e2; cases this
    refine T_auto TT_ok rfl ?_
    exact X_inv (i + 1) hlt (by omega) (by repeat (first | exact trivial | refine And.intro ⟨_, rfl, SV.imp_refl _⟩ ?_)) (by repeat (first | exact trivial | refine And.intro ⟨_, rfl, Ch.imp_refl _⟩ ?_))
theorem hasB_get {m : GMachine} {r0 : Int} (h : hasB m r0 = true) : ∃ i, i < m.copies.length ∧ (∀ j, j < i → atB r0 (m.copies.getD j GCopy.z) = false) ∧ atB r0 (m.copies.getD i GCopy.z) = true := by
  rcases idxI_cases (atB r0) GCopy.z m.copies with ⟨h1, h2⟩ | ⟨i, h1, h2, h3, h4⟩
  · rw [hasB, any_no h2] at h; cases h
  · exact ⟨i, h1, h3, h4⟩

/-! ### clusters -/
/-- machine number k of region r -/
abbrev mAt (c : GCluster) (r k : Nat) : Int := (c.places.getD r GPlace.z).machines.getD k 0
def badAt (c : GCluster) (r k : Nat) : Bool := bif decide (mAt c r k ≥ (c.machines.length : Int)) then true else bif (c.machines.getD (mAt c r k).toNat GMachine.z).alive then !hasB (c.machines.getD (mAt c r k).toNat GMachine.z) r else false
noncomputable def badTx (c : GCluster) (i : Nat) : Bool := bif (bif (bif !dec (TxOk (c.txs.getD i GTx.z)) then true else bif decide ((i : Int) > 0) then decide ((c.txs.getD i GTx.z).id ≤ (c.txs.getD ((i : Int) - 1).toNat GTx.z).id) else false) then true else decide ((c.txs.getD i GTx.z).home ≥ (c.machines.length : Int))) then true else decide ((c.txs.getD i GTx.z).stamp > c.clock)
def ClusOk (c : GCluster) : Prop := ((1 ≤ c.config ∧ c.config ≤ 1000000) ∧ (0 ≤ c.clock ∧ c.clock ≤ 1000000) ∧ (1 ≤ c.machines.length ∧ c.machines.length ≤ 8) ∧ c.txs.length ≤ 60) ∧ PlOk c.places ∧ (∀ i, i < c.machines.length → MachOk (c.machines.getD i GMachine.z)) ∧
  (∀ r, r < c.places.length → ∀ k, k < (c.places.getD r GPlace.z).machines.length → badAt c r k = false) ∧ ∀ i, i < c.txs.length → badTx c i = false ∧ (∀ k, k < (c.txs.getD i GTx.z).reads.length → ((c.txs.getD i GTx.z).reads.getD k GNote.z).region < c.places.length) ∧ ∀ k, k < (c.txs.getD i GTx.z).sets.length → ((c.txs.getD i GTx.z).sets.getD k GSet.z).region < c.places.length
theorem pl_nonneg {p : GPlace} (h : plOk p) {k : Nat} (hk : k < p.machines.length) : 0 ≤ p.machines.getD k 0 ∧ p.machines.getD k 0 ≤ 7 := by
  have h1 := h.2 k hk
  unfold badPl at h1
  cases c : inB (p.machines.getD k 0) 0 7 with
  | false => rw [c] at h1; cases h1
  | true => exact inB_iff.1 c
theorem spec_ClusterOk_q (c : GCluster) (hb : D.bds bigN (cCluster c)) : Ans Tryz.prog 63 [] [vR (cCluster c)] [] (vB (dec (ClusOk c))) := by
  have b1 : c.places.length ≤ 1048576 := hb.2.2.1.1
  have b2 : c.machines.length ≤ 1048576 := hb.2.2.2.1.1
  have b3 : c.txs.length ≤ 1048576 := hb.2.2.2.2.1.1
  refine con_enter Tryz.func63 rfl rfl rfl fun B0 r_ D_ w0 => ?_
  refine T_auto TT_ok rfl ?_
  refine RJ_Q TT_ok (spec_l1Id_q _) rfl rfl rfl rfl rfl ?_
  refine RJ_Q TT_ok (spec_l1In_q _ _ _) rfl rfl rfl rfl rfl ?_
  refine RJ_Q TT_ok (spec_PlacesOk_q _) rfl rfl rfl rfl rfl ?_
  refine T_cond rfl (fun e => ?_) (fun e => ?_)
  · refine T_auto TT_ok rfl ?_
    exact T_ansB TT_ok [(2, none)] rfl rfl ((dec_false fun h => by have h1 := h.1; simp [dec_true h.2.1, inB_iff.2 h1.1, inB_iff.2 h1.2.1] at e; omega).symm)
  have hH : ((1 ≤ c.config ∧ c.config ≤ 1000000) ∧ (0 ≤ c.clock ∧ c.clock ≤ 1000000) ∧ (1 ≤ c.machines.length ∧ c.machines.length ≤ 8) ∧ c.txs.length ≤ 60) ∧ PlOk c.places := by
    simp only [Bool.cond_true_left, Bool.or_eq_false_iff, Bool.not_eq_false', inB_iff, decide_eq_false_iff_not, dec_iff] at e
    exact ⟨by omega, e.1.2⟩
  clear e
  refine T_auto TT_ok rfl ?_
  refine T_loopA (ι := Nat) (fun i => [(4, vI i)]) (fun _ => []) (fun i => i ≤ c.machines.length ∧ ∀ j, j < i → MachOk (c.machines.getD j GMachine.z)) (fun i => c.machines.length - i) 0 [] [] rfl rfl ⟨Nat.zero_le _, fun j hj => absurd hj (Nat.not_lt_zero _)⟩ (by repeat (first | exact trivial | refine And.intro ⟨_, rfl, SV.imp_refl _⟩ ?_)) (by repeat (first | exact trivial | refine And.intro ⟨_, rfl, Ch.imp_refl _⟩ ?_)) ?_
  intro i ⟨h1, h2⟩
  refine T_auto TT_ok rfl ?_
  refine T_condD rfl (fun e => ?_) (fun e => ?_)
  · have hi : i < c.machines.length := by omega
    refine T_auto TT_ok rfl ?_
    refine RJ_Q TT_ok (spec_MachineOk_q _ (hb.2.2.2.1.2 i hi)) rfl rfl rfl rfl rfl ?_
    refine T_condX rfl (fun e1 => ?_) (fun e1 => ?_)
    · refine T_auto TT_ok rfl ?_
      exact T_ansB TT_ok [(2, none)] rfl rfl ((dec_false fun h => dec_not.1 e1 (h.2.2.1 i hi)).symm)
    · refine T_auto TT_ok rfl ?_
      exact X_inv (i + 1) ⟨hi, before_succ h2 (dec_iff.1 e1)⟩ (by omega) (by repeat (first | exact trivial | refine And.intro ⟨_, rfl, SV.imp_refl _⟩ ?_)) (by repeat (first | exact trivial | refine And.intro ⟨_, rfl, Ch.imp_refl _⟩ ?_))
  have hi : i = c.machines.length := by omega
  subst hi
  clear e h1
  refine T_auto TT_ok rfl ?_
  refine T_loopA (ι := Nat) (fun i => [(5, vI i)]) (fun _ => []) (fun i => i ≤ c.places.length ∧ ∀ r, r < i → ∀ k, k < (c.places.getD r GPlace.z).machines.length → badAt c r k = false) (fun i => c.places.length - i) 0 [] [] rfl rfl ⟨Nat.zero_le _, fun j hj => absurd hj (Nat.not_lt_zero _)⟩ (by repeat (first | exact trivial | refine And.intro ⟨_, rfl, SV.imp_refl _⟩ ?_)) (by repeat (first | exact trivial | refine And.intro ⟨_, rfl, Ch.imp_refl _⟩ ?_)) ?_
  intro i ⟨h1, h3⟩
  refine T_auto TT_ok rfl ?_
  refine T_condD rfl (fun e => ?_) (fun e => ?_)
  · have hi : i < c.places.length := by omega
    have hp := hH.2.2 i hi
    have hpl := hp.1
    refine T_auto TT_ok rfl ?_
    refine T_loopA (ι := Nat) (fun k => [(7, vI k)]) (fun _ => []) (fun k => k ≤ (c.places.getD i GPlace.z).machines.length ∧ ∀ j, j < k → badAt c i j = false) (fun k => (c.places.getD i GPlace.z).machines.length - k) 0 [] [] rfl rfl ⟨Nat.zero_le _, fun j hj => absurd hj (Nat.not_lt_zero _)⟩ (by repeat (first | exact trivial | refine And.intro ⟨_, rfl, SV.imp_refl _⟩ ?_)) (by repeat (first | exact trivial | refine And.intro ⟨_, rfl, Ch.imp_refl _⟩ ?_)) ?_
    intro k ⟨g1, g2⟩
    refine T_auto TT_ok rfl ?_
    refine T_condD rfl (fun e1 => ?_) (fun e1 => ?_)
    · have hk : k < (c.places.getD i GPlace.z).machines.length := by simp at e1 ⊢; omega
      have hn := pl_nonneg hp hk
      refine T_auto TT_ok rfl ?_
      refine T_drawA TT_ok [] rfl rfl fun B0 H0 => ?_
      refine DJ_Q TT_ok (l6At_q _ (bd_at hb.2.2.2.1 ⟨trivial, ⟨Nat.zero_le _, fun i hi => absurd hi (Nat.not_lt_zero _)⟩, ⟨Nat.zero_le _, fun i hi => absurd hi (Nat.not_lt_zero _)⟩, ⟨Nat.zero_le _, fun i hi => absurd hi (Nat.not_lt_zero _)⟩, trivial⟩ _).2.1.1 _) rfl rfl rfl rfl rfl rfl ?_
      refine DJ_endA TT_ok rfl ?_
      rw [idx_lt _ GCopy.z]
      refine T_cond rfl (fun e2 => ?_) (fun e2 => ?_)
      · refine T_auto TT_ok rfl ?_
        exact T_ansB TT_ok [(2, none)] rfl rfl ((dec_false fun h => by have := (h.2.2.2.1 i hi k hk).symm.trans e2; cases this).symm)
      · refine T_auto TT_ok rfl ?_
        exact X_inv (k + 1) ⟨hk, before_succ g2 e2⟩ (by omega) (by repeat (first | exact trivial | refine And.intro ⟨_, rfl, SV.imp_refl _⟩ ?_)) (by repeat (first | exact trivial | refine And.intro ⟨_, rfl, Ch.imp_refl _⟩ ?_))
    · refine T_auto TT_ok rfl ?_
      exact X_inv (i + 1) ⟨hi, before_succ h3 fun k hk => g2 k (by simp at e1 hk; omega)⟩ (by omega) (by repeat (first | exact trivial | refine And.intro ⟨_, rfl, SV.imp_refl _⟩ ?_)) (by repeat (first | exact trivial | refine And.intro ⟨_, rfl, Ch.imp_refl _⟩ ?_))
  have hi : i = c.places.length := by omega
  subst hi
  clear e h1
  refine T_auto TT_ok rfl ?_
  refine T_loopA (ι := Nat) (fun i => [(8, vI i)]) (fun _ => []) (fun i => i ≤ c.txs.length ∧ ∀ j, j < i → badTx c j = false ∧ (∀ k, k < (c.txs.getD j GTx.z).reads.length → ((c.txs.getD j GTx.z).reads.getD k GNote.z).region < c.places.length) ∧ ∀ k, k < (c.txs.getD j GTx.z).sets.length → ((c.txs.getD j GTx.z).sets.getD k GSet.z).region < c.places.length) (fun i => c.txs.length - i) 0 [] [] rfl rfl ⟨Nat.zero_le _, fun j hj => absurd hj (Nat.not_lt_zero _)⟩ (by repeat (first | exact trivial | refine And.intro ⟨_, rfl, SV.imp_refl _⟩ ?_)) (by repeat (first | exact trivial | refine And.intro ⟨_, rfl, Ch.imp_refl _⟩ ?_)) ?_
  intro i ⟨h1, h4⟩
  refine T_auto TT_ok rfl ?_
  refine T_condD rfl (fun e => ?_) (fun e => ?_)
  · have hi : i < c.txs.length := by omega
    have r1 : (c.txs.getD i GTx.z).reads.length ≤ 1048576 := (hb.2.2.2.2.1.2 i hi).2.2.2.2.1.1
    have r2 : (c.txs.getD i GTx.z).sets.length ≤ 1048576 := (hb.2.2.2.2.1.2 i hi).2.2.2.2.2.1.1
    refine T_auto TT_ok rfl ?_
    refine T_drawA TT_ok [] rfl rfl fun B0 H0 => ?_
    refine DJ_Q TT_ok (spec_TxOk_q _) rfl rfl rfl rfl rfl rfl ?_
    refine DJ_endA TT_ok rfl ?_
    refine T_cond rfl (fun e1 => ?_) (fun e1 => ?_)
    · refine T_auto TT_ok rfl ?_
      exact T_ansB TT_ok [(2, none)] rfl rfl ((dec_false fun h => by have := (h.2.2.2.2 i hi).1.symm.trans e1; cases this).symm)
    refine T_auto TT_ok rfl ?_
    refine T_loopA (ι := Nat) (fun k => [(10, vI k)]) (fun _ => []) (fun k => k ≤ (c.txs.getD i GTx.z).reads.length ∧ ∀ j, j < k → ((c.txs.getD i GTx.z).reads.getD j GNote.z).region < c.places.length) (fun k => (c.txs.getD i GTx.z).reads.length - k) 0 [] [] rfl rfl ⟨Nat.zero_le _, fun j hj => absurd hj (Nat.not_lt_zero _)⟩ (by repeat (first | exact trivial | refine And.intro ⟨_, rfl, SV.imp_refl _⟩ ?_)) (by repeat (first | exact trivial | refine And.intro ⟨_, rfl, Ch.imp_refl _⟩ ?_)) ?_
    intro k ⟨g1, g2⟩
    refine T_auto TT_ok rfl ?_
    refine T_condD rfl (fun e2 => ?_) (fun e2 => ?_)
    · have hk : k < (c.txs.getD i GTx.z).reads.length := by simp at e2 ⊢; omega
      refine T_auto TT_ok rfl ?_
      refine T_drawA TT_ok [] rfl rfl fun B0 H0 => ?_
      refine DJ_endA TT_ok rfl ?_
      refine T_condD rfl (fun e3 => ?_) (fun e3 => ?_)
      · refine T_auto TT_ok rfl ?_
        exact T_ansB TT_ok [(2, none)] rfl rfl ((dec_false fun h => by have := (h.2.2.2.2 i hi).2.1 k hk; simp at e3 this; omega).symm)
      · refine T_auto TT_ok rfl ?_
        exact X_inv (k + 1) ⟨hk, before_succ g2 (by simp at e3 ⊢; omega)⟩ (by omega) (by repeat (first | exact trivial | refine And.intro ⟨_, rfl, SV.imp_refl _⟩ ?_)) (by repeat (first | exact trivial | refine And.intro ⟨_, rfl, Ch.imp_refl _⟩ ?_))
    have hg : ∀ j, j < (c.txs.getD i GTx.z).reads.length → ((c.txs.getD i GTx.z).reads.getD j GNote.z).region < c.places.length := fun j hj => g2 j (by simp at e2 hj; omega)
    clear g1 g2 e2
    refine T_auto TT_ok rfl ?_
    refine T_loopA (ι := Nat) (fun k => [(11, vI k)]) (fun _ => []) (fun k => k ≤ (c.txs.getD i GTx.z).sets.length ∧ ∀ j, j < k → ((c.txs.getD i GTx.z).sets.getD j GSet.z).region < c.places.length) (fun k => (c.txs.getD i GTx.z).sets.length - k) 0 [] [] rfl rfl ⟨Nat.zero_le _, fun j hj => absurd hj (Nat.not_lt_zero _)⟩ (by repeat (first | exact trivial | refine And.intro ⟨_, rfl, SV.imp_refl _⟩ ?_)) (by repeat (first | exact trivial | refine And.intro ⟨_, rfl, Ch.imp_refl _⟩ ?_)) ?_
    intro k ⟨g1, g2⟩
    refine T_auto TT_ok rfl ?_
    refine T_condD rfl (fun e2 => ?_) (fun e2 => ?_)
    · have hk : k < (c.txs.getD i GTx.z).sets.length := by simp at e2 ⊢; omega
      refine T_auto TT_ok rfl ?_
      refine T_drawA TT_ok [] rfl rfl fun B0 H0 => ?_
      refine DJ_endA TT_ok rfl ?_
      refine T_condD rfl (fun e3 => ?_) (fun e3 => ?_)
      · refine T_auto TT_ok rfl ?_
        exact T_ansB TT_ok [(2, none)] rfl rfl ((dec_false fun h => by have := (h.2.2.2.2 i hi).2.2 k hk; simp at e3 this; omega).symm)
      · refine T_auto TT_ok rfl ?_
        exact X_inv (k + 1) ⟨hk, before_succ g2 (by simp at e3 ⊢; omega)⟩ (by omega) (by repeat (first | exact trivial | refine And.intro ⟨_, rfl, SV.imp_refl _⟩ ?_)) (by repeat (first | exact trivial | refine And.intro ⟨_, rfl, Ch.imp_refl _⟩ ?_))
    · refine T_auto TT_ok rfl ?_
      exact X_inv (i + 1) ⟨hi, before_succ h4 ⟨e1, hg, fun j hj => g2 j (by simp at e2 hj; omega)⟩⟩ (by omega) (by repeat (first | exact trivial | refine And.intro ⟨_, rfl, SV.imp_refl _⟩ ?_)) (by repeat (first | exact trivial | refine And.intro ⟨_, rfl, Ch.imp_refl _⟩ ?_))
  · refine T_auto TT_ok rfl ?_
    exact T_ansB TT_ok [(2, none)] rfl rfl ((dec_true ⟨hH.1, hH.2, h2, h3, fun j hj => h4 j (by omega)⟩).symm)
theorem isCluster1_q (m : GMachine) (hb : D.bds bigN (cMachine m)) : Ans Tryz.prog 75 [] [vR (cMachine m)] [] (vB (!dec (MachOk m))) := by
  refine con_enter Tryz.func75 rfl rfl rfl fun B0 r_ D_ w0 => ?_
  refine T_auto TT_ok rfl ?_
  refine RJ_Q TT_ok (impl_isMachineOk_q _ hb) rfl rfl rfl rfl rfl ?_
  exact T_ansB TT_ok [(2, none)] rfl rfl (rfl)
theorem isCluster2_q (n : GNote) (x : Int) : Ans Tryz.prog 81 [] [vR (cNote n), vP [dI x]] [] (vB (decide (n.region ≥ x))) := by
  refine con_enter Tryz.func81 rfl rfl rfl fun B0 r_ D_ w0 => ?_
  refine T_auto TT_ok rfl ?_
  exact T_ansB TT_ok [(3, none)] rfl rfl (rfl)
theorem isCluster3_q (n : GSet) (x : Int) : Ans Tryz.prog 83 [] [vR (cSet n), vP [dI x]] [] (vB (decide (n.region ≥ x))) := by
  refine con_enter Tryz.func83 rfl rfl rfl fun B0 r_ D_ w0 => ?_
  refine T_auto TT_ok rfl ?_
  exact T_ansB TT_ok [(3, none)] rfl rfl (rfl)
theorem bdM_any {c : GCluster} (hb : D.bds bigN (cCluster c)) (i : Nat) : D.bds bigN (cMachine (c.machines.getD i GMachine.z)) := bd_at hb.2.2.2.1 ⟨trivial, ⟨Nat.zero_le _, fun i hi => absurd hi (Nat.not_lt_zero _)⟩, ⟨Nat.zero_le _, fun i hi => absurd hi (Nat.not_lt_zero _)⟩, ⟨Nat.zero_le _, fun i hi => absurd hi (Nat.not_lt_zero _)⟩, trivial⟩ _
theorem hasB_lt {c : GCluster} {i : Nat} {r0 : Int} (h : hasB (c.machines.getD i GMachine.z) r0 = true) : i < c.machines.length := by
  rcases Nat.lt_or_ge i c.machines.length with h1 | h1
  · exact h1
  · rw [List.getD_eq_getElem?_getD, List.getElem?_eq_none h1] at h; cases h
theorem cells6 {m : GMachine} (h : MachOk m) {i : Nat} (hi : i < m.copies.length) : cellsB (m.copies.getD i GCopy.z).cells = true := by
  have h1 := h.2.2.1 i hi
  unfold badCopy at h1
  cases c : cellsB (m.copies.getD i GCopy.z).cells with
  | true => rfl
  | false => rw [c] at h1; cases c2 : inB (m.copies.getD i GCopy.z).region 0 5 <;> rw [c2] at h1 <;> cases h1
theorem cellsB_len {xs : List GCell} (h : cellsB xs = true) : xs.length = 6 := by
  unfold cellsB at h
  cases c : ((xs.length : Int) == 6) with
  | false => rw [c] at h; cases h
  | true => have := beq_iff_eq.1 c; omega
theorem tx_impl (c : GCluster) (i : Nat) : (bif (bif badTx c i then true else (c.txs.getD i GTx.z).reads.any fun n => decide (n.region ≥ (c.places.length : Int))) then true else (c.txs.getD i GTx.z).sets.any fun n => decide (n.region ≥ (c.places.length : Int))) = false ↔
    badTx c i = false ∧ (∀ k, k < (c.txs.getD i GTx.z).reads.length → ((c.txs.getD i GTx.z).reads.getD k GNote.z).region < c.places.length) ∧ ∀ k, k < (c.txs.getD i GTx.z).sets.length → ((c.txs.getD i GTx.z).sets.getD k GSet.z).region < c.places.length := by
  constructor
  · intro h
    cases c1 : badTx c i with
    | true => rw [c1] at h; cases h
    | false =>
      rw [c1] at h
      cases c2 : (c.txs.getD i GTx.z).reads.any fun n => decide (n.region ≥ (c.places.length : Int)) with
      | true => rw [c2] at h; cases h
      | false =>
        rw [c2] at h
        refine ⟨rfl, fun k hk => ?_, fun k hk => ?_⟩
        · have := any_get (z := GNote.z) c2 k hk
          have := of_decide_eq_false this
          omega
        · have := any_get (z := GSet.z) (show ((c.txs.getD i GTx.z).sets.any fun n => decide (n.region ≥ (c.places.length : Int))) = false from h) k hk
          have := of_decide_eq_false this
          omega
  · rintro ⟨h1, h2, h3⟩
    rw [h1, any_no (z := GNote.z) fun k hk => decide_eq_false (by have := h2 k hk; omega), any_no (z := GSet.z) fun k hk => decide_eq_false (by have := h3 k hk; omega)]; rfl
theorem impl_isCluster_q (c : GCluster) (hb : D.bds bigN (cCluster c)) : Ans Tryz.prog 32 [] [vR (cCluster c)] [] (vB (dec (ClusOk c))) := by
  have b1 : c.places.length ≤ 1048576 := hb.2.2.1.1
  have b2 : c.machines.length ≤ 1048576 := hb.2.2.2.1.1
  have b3 : c.txs.length ≤ 1048576 := hb.2.2.2.2.1.1
  refine con_enter Tryz.func32 rfl rfl rfl fun B0 r_ D_ w0 => ?_
  refine T_auto TT_ok rfl ?_
  refine RJ_Q TT_ok (sizeMachine_q _) rfl rfl rfl rfl rfl ?_
  refine RJ_Q TT_ok (impl_isId_q _) rfl rfl rfl rfl rfl ?_
  refine RJ_Q TT_ok (impl_within_q _ _ _) rfl rfl rfl rfl rfl ?_
  refine RJ_Q TT_ok (impl_within_q _ _ _) rfl rfl rfl rfl rfl ?_
  refine RJ_Q TT_ok (impl_arePlaces_q _ b1 (fun i hi => (hb.2.2.1.2 i hi).1.1)) rfl rfl rfl rfl rfl ?_
  refine RJ_QF TT_ok (containsFuncMachine_p c.machines b2 (fun m => D.bds bigN (cMachine m)) (fun i hi => hb.2.2.2.1.2 i hi) fun m => !dec (MachOk m)) rfl rfl (SVs.cons (SV.imp_refl _) (SVs.cons (imp_fb (enters_B (by kernel_rfl)) rfl fun args x ⟨n, hn, e1, e2⟩ => by subst e1; subst e2; exact isCluster1_q n hn) rfl)) rfl rfl ?_
  refine T_cond rfl (fun e => ?_) (fun e => ?_)
  · refine T_auto TT_ok rfl ?_
    exact T_ansB TT_ok [(2, none)] rfl rfl ((dec_false fun h => by have h1 := h.1; rw [any_no (z := GMachine.z) fun j hj => by rw [dec_true (h.2.2.1 j hj)]; rfl] at e; simp [dec_true h.2.1, inB_iff.2 h1.1, inB_iff.2 h1.2.1, inB_iff.2 (show (1 : Int) ≤ (c.machines.length : Int) ∧ (c.machines.length : Int) ≤ 8 from by omega)] at e; omega).symm)
  have hH : (((1 ≤ c.config ∧ c.config ≤ 1000000) ∧ (0 ≤ c.clock ∧ c.clock ≤ 1000000) ∧ (1 ≤ c.machines.length ∧ c.machines.length ≤ 8) ∧ c.txs.length ≤ 60) ∧ PlOk c.places) ∧ (c.machines.any fun m => !dec (MachOk m)) = false := by
    simp only [Bool.cond_true_left, Bool.or_eq_false_iff, Bool.not_eq_false', inB_iff, decide_eq_false_iff_not, dec_iff] at e
    exact ⟨⟨by omega, e.1.2⟩, e.2⟩
  have hM : ∀ i, i < c.machines.length → MachOk (c.machines.getD i GMachine.z) := fun i hi => by have := any_get (z := GMachine.z) hH.2 i hi; simpa [dec_iff] using this
  replace hH := hH.1
  clear e
  refine T_auto TT_ok rfl ?_
  refine T_loopA (ι := Nat) (fun i => [(49, vI i)]) (fun _ => []) (fun i => i ≤ c.places.length ∧ ∀ r, r < i → ∀ k, k < (c.places.getD r GPlace.z).machines.length → badAt c r k = false) (fun i => c.places.length - i) 0 [] [] rfl rfl ⟨Nat.zero_le _, fun j hj => absurd hj (Nat.not_lt_zero _)⟩ (by repeat (first | exact trivial | refine And.intro ⟨_, rfl, SV.imp_refl _⟩ ?_)) (by repeat (first | exact trivial | refine And.intro ⟨_, rfl, Ch.imp_refl _⟩ ?_)) ?_
  intro i ⟨h1, h3⟩
  refine T_auto TT_ok rfl ?_
  refine T_condD rfl (fun e => ?_) (fun e => ?_)
  · have hi : i < c.places.length := by omega
    have hp := hH.2.2 i hi
    have hpl := hp.1
    refine T_auto TT_ok rfl ?_
    refine T_loopA (ι := Nat) (fun k => [(57, vI k)]) (fun _ => []) (fun k => k ≤ (c.places.getD i GPlace.z).machines.length ∧ ∀ j, j < k → badAt c i j = false) (fun k => (c.places.getD i GPlace.z).machines.length - k) 0 [] [] rfl rfl ⟨Nat.zero_le _, fun j hj => absurd hj (Nat.not_lt_zero _)⟩ (by repeat (first | exact trivial | refine And.intro ⟨_, rfl, SV.imp_refl _⟩ ?_)) (by repeat (first | exact trivial | refine And.intro ⟨_, rfl, Ch.imp_refl _⟩ ?_)) ?_
    intro k ⟨g1, g2⟩
    refine T_auto TT_ok rfl ?_
    refine T_condD rfl (fun e1 => ?_) (fun e1 => ?_)
    · have hk : k < (c.places.getD i GPlace.z).machines.length := by simp at e1 ⊢; omega
      have hn := pl_nonneg hp hk
      refine T_auto TT_ok rfl ?_
      cases hh : hasB (c.machines.getD (mAt c i k).toNat GMachine.z) i with
      | false =>
        refine RJ_Q TT_ok (cells_none_q _ (bdM_any hb _).2.1.1 _ hh) rfl rfl rfl rfl rfl ?_
        refine T_cond rfl (fun e2 => ?_) (fun e2 => ?_)
        · refine T_auto TT_ok rfl ?_
          exact T_ansB TT_ok [(2, none)] rfl rfl ((dec_false fun h => by have h5 := h.2.2.2.1 i hi k hk; unfold badAt at h5; rw [hh] at h5; have := h5.symm.trans e2; cases this).symm)
        · refine T_auto TT_ok rfl ?_
          exact X_inv (k + 1) ⟨hk, before_succ g2 (by unfold badAt; rw [hh]; exact e2)⟩ (by omega) (by repeat (first | exact trivial | refine And.intro ⟨_, rfl, SV.imp_refl _⟩ ?_)) (by repeat (first | exact trivial | refine And.intro ⟨_, rfl, Ch.imp_refl _⟩ ?_))
      | true =>
        obtain ⟨i0, w1, w2, w3⟩ := hasB_get hh
        refine RJ_QR TT_ok (cells_some_q _ (bdM_any hb _).2.1.1 _ i0 w1 w2 w3) rfl rfl (SVs.imp_refl _) rfl rfl ?_
        have h6 := cellsB_len (cells6 (hM _ (hasB_lt hh)) w1)
        refine RJ_nilG TT_ok rfl rfl rfl rfl rfl rfl rfl rfl rfl (by omega) ?_
        refine RJ_auto TT_ok rfl ?_
        refine T_cond rfl (fun e2 => ?_) (fun e2 => ?_)
        · refine T_auto TT_ok rfl ?_
          exact T_ansB TT_ok [(2, none)] rfl rfl ((dec_false fun h => by have h5 := h.2.2.2.1 i hi k hk; unfold badAt at h5; rw [hh] at h5; have := h5.symm.trans e2; cases this).symm)
        · refine T_auto TT_ok rfl ?_
          exact X_inv (k + 1) ⟨hk, before_succ g2 (by unfold badAt; rw [hh]; exact e2)⟩ (by omega) (by repeat (first | exact trivial | refine And.intro ⟨_, rfl, SV.imp_refl _⟩ ?_)) (by repeat (first | exact trivial | refine And.intro ⟨_, rfl, Ch.imp_refl _⟩ ?_))
    · refine T_auto TT_ok rfl ?_
      exact X_inv (i + 1) ⟨hi, before_succ h3 fun k hk => g2 k (by simp at e1 hk; omega)⟩ (by omega) (by repeat (first | exact trivial | refine And.intro ⟨_, rfl, SV.imp_refl _⟩ ?_)) (by repeat (first | exact trivial | refine And.intro ⟨_, rfl, Ch.imp_refl _⟩ ?_))
  have hi : i = c.places.length := by omega
  subst hi
  clear e h1
  refine T_auto TT_ok rfl ?_
  refine RJ_Q TT_ok (sizePlace_q _) rfl rfl rfl rfl rfl ?_
  refine T_loopA (ι := Nat) (fun i => [(89, vI i)]) (fun _ => []) (fun i => i ≤ c.txs.length ∧ ∀ j, j < i → badTx c j = false ∧ (∀ k, k < (c.txs.getD j GTx.z).reads.length → ((c.txs.getD j GTx.z).reads.getD k GNote.z).region < c.places.length) ∧ ∀ k, k < (c.txs.getD j GTx.z).sets.length → ((c.txs.getD j GTx.z).sets.getD k GSet.z).region < c.places.length) (fun i => c.txs.length - i) 0 [] [] rfl rfl ⟨Nat.zero_le _, fun j hj => absurd hj (Nat.not_lt_zero _)⟩ (by repeat (first | exact trivial | refine And.intro ⟨_, rfl, SV.imp_refl _⟩ ?_)) (by repeat (first | exact trivial | refine And.intro ⟨_, rfl, Ch.imp_refl _⟩ ?_)) ?_
  intro i ⟨h1, h4⟩
  refine T_auto TT_ok rfl ?_
  refine T_condD rfl (fun e => ?_) (fun e => ?_)
  · have hi : i < c.txs.length := by omega
    have r1 : (c.txs.getD i GTx.z).reads.length ≤ 1048576 := (hb.2.2.2.2.1.2 i hi).2.2.2.2.1.1
    have r2 : (c.txs.getD i GTx.z).sets.length ≤ 1048576 := (hb.2.2.2.2.1.2 i hi).2.2.2.2.2.1.1
    refine T_auto TT_ok rfl ?_
    refine T_drawA TT_ok [] rfl rfl fun B0 H0 => ?_
    refine DJ_Q TT_ok (impl_isTx_q _) rfl rfl rfl rfl rfl rfl ?_
    refine DJ_QF TT_ok (containsFuncNote_q (c.txs.getD i GTx.z).reads r1 fun n => decide (n.region ≥ (c.places.length : Int))) rfl rfl rfl (SVs.cons (SV.imp_refl _) (SVs.cons (imp_fb (enters_B (by kernel_rfl)) rfl fun args x ⟨n, e1, e2⟩ => by subst e1; subst e2; exact isCluster2_q n _) rfl)) rfl rfl ?_
    refine DJ_QF TT_ok (containsFuncSet_q (c.txs.getD i GTx.z).sets r2 fun n => decide (n.region ≥ (c.places.length : Int))) rfl rfl rfl (SVs.cons (SV.imp_refl _) (SVs.cons (imp_fb (enters_B (by kernel_rfl)) rfl fun args x ⟨n, e1, e2⟩ => by subst e1; subst e2; exact isCluster3_q n _) rfl)) rfl rfl ?_
    refine DJ_endA TT_ok rfl ?_
    refine T_cond rfl (fun e1 => ?_) (fun e1 => ?_)
    · refine T_auto TT_ok rfl ?_
      exact T_ansB TT_ok [(2, none)] rfl rfl ((dec_false fun h => by have := ((tx_impl c i).2 (h.2.2.2.2 i hi)).symm.trans e1; cases this).symm)
    · refine T_auto TT_ok rfl ?_
      exact X_inv (i + 1) ⟨hi, before_succ h4 ((tx_impl c i).1 e1)⟩ (by omega) (by repeat (first | exact trivial | refine And.intro ⟨_, rfl, SV.imp_refl _⟩ ?_)) (by repeat (first | exact trivial | refine And.intro ⟨_, rfl, Ch.imp_refl _⟩ ?_))
  · refine T_auto TT_ok rfl ?_
    exact T_ansB TT_ok [(2, none)] rfl rfl ((dec_true ⟨hH.1, hH.2, hM, h3, fun j hj => h4 j (by omega)⟩).symm)
end Go.Proofs.YtpfcfepbhdkpdaaGreat
