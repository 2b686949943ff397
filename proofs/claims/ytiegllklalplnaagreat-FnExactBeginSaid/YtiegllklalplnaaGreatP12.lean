
/-
  Clusters are asked: whether settled, votes, who is up, cells, whether stricken, transactions; on both sides.
-/
import Derived.Test.YtiegllklalplnaaGreatP11
import Derived.Test.YtiegllklalplnaaGreatWH
namespace Go.Proofs.YtiegllklalplnaaGreat
open Go Go.RowKit
set_option linter.unusedVariables false
set_option linter.unusedSimpArgs false
set_option maxRecDepth 4000

/-- the machine number k of region r -/
abbrev machAt (c : GCluster) (r k : Nat) : GMachine := c.machines.getD (mAt c r k).toNat GMachine.z
def cellsOf (m : GMachine) (r : Int) : List GCell := if hasB m r = true then (m.copies.getD (idxI (atB r) m.copies).toNat GCopy.z).cells else []
theorem hasB_idx {m : GMachine} {r : Int} (h : hasB m r = true) : 0 ≤ idxI (atB r) m.copies ∧ idxI (atB r) m.copies < m.copies.length := by
  rcases idxI_cases (atB r) GCopy.z m.copies with ⟨h1, h2⟩ | ⟨i, h1, h2, h3, h4⟩
  · rw [hasB, any_no h2] at h; cases h
  · omega
theorem cellsOf_has {m : GMachine} {r : Int} (h : hasB m r = true) : cellsOf m r = (m.copies.getD (idxI (atB r) m.copies).toNat GCopy.z).cells := by rw [cellsOf, if_pos h]
theorem cells_q (m : GMachine) (hl : m.copies.length ≤ 1048576) (r0 : Int) : Ans Tryz.prog 79 [] [vP (cMachine m), vI r0] [] (vL 2 cCell GCell.z (cellsOf m r0)) := by
  cases h : hasB m r0 with
  | false =>
    refine (cells_none_q m hl r0 h).wkR fun _ _ => ⟨_, _, rfl, ?_, rfl⟩
    rw [cellsOf, if_neg (by rw [h]; simp)]
    intro B Z v e
    have e : v = .slice none 0 0 := e
    subst e
    exact ⟨none, 0, rfl, Nat.le_refl _, Nat.zero_le _, .inl rfl⟩
  | true =>
    rcases idxI_cases (atB r0) GCopy.z m.copies with ⟨h1, h2⟩ | ⟨i, h1, h2, h3, h4⟩
    · rw [hasB, any_no h2] at h; cases h
    · have e : cellsOf m r0 = (m.copies.getD i GCopy.z).cells := by rw [cellsOf_has h, h2]; rfl
      rw [e]
      exact cells_some_q m hl r0 i h1 h3 h4
/-! ### what a right cluster has -/
theorem ClusOk.at {c : GCluster} (h : ClusOk c) {r k : Nat} (hr : r < c.places.length) (hk : k < (c.places.getD r GPlace.z).machines.length) : (0 ≤ mAt c r k ∧ mAt c r k < c.machines.length) ∧ ((machAt c r k).alive = true → hasB (machAt c r k) r = true) := by
  have h1 := pl_nonneg (h.2.1.2 r hr) hk
  have h2 := h.2.2.2.1 r hr k hk
  unfold badAt at h2
  cases c1 : decide (mAt c r k ≥ (c.machines.length : Int)) with
  | true => rw [c1] at h2; cases h2
  | false =>
    rw [c1] at h2
    have := of_decide_eq_false c1
    refine ⟨⟨h1.1, by omega⟩, fun ha => ?_⟩
    change (bif (machAt c r k).alive then !hasB (machAt c r k) r else false) = false at h2
    rw [ha] at h2
    simpa using h2
theorem ClusOk.pl {c : GCluster} (h : ClusOk c) {r : Nat} (hr : r < c.places.length) : 1 ≤ (c.places.getD r GPlace.z).machines.length ∧ (c.places.getD r GPlace.z).machines.length ≤ 3 := (h.2.1.2 r hr).1
theorem ClusOk.mach {c : GCluster} (h : ClusOk c) {r k : Nat} (hr : r < c.places.length) (hk : k < (c.places.getD r GPlace.z).machines.length) : MachOk (machAt c r k) := h.2.2.1 _ (by have := (h.at hr hk).1; omega)
theorem cellsOf_len {m : GMachine} (h : MachOk m) {r : Int} (hh : hasB m r = true) : (cellsOf m r).length = 6 ∧ cellsB (cellsOf m r) = true := by
  have h1 := hasB_idx hh
  rw [cellsOf_has hh]
  have h2 := cells6 h (i := (idxI (atB r) m.copies).toNat) (by omega)
  exact ⟨cellsB_len h2, h2⟩
theorem cellsB_get {xs : List GCell} (h : cellsB xs = true) {i : Nat} (hi : i < xs.length) : badCell (xs.getD i GCell.z) = false := by
  unfold cellsB at h
  cases c : ((xs.length : Int) == 6) with
  | false => rw [c] at h; cases h
  | true => rw [c] at h; exact any_get (by simpa using h) i hi
theorem headB_cell {x : GCell} (h : badCell x = false) : headB x.head = true := by
  unfold badCell at h
  cases c : headB x.head with
  | true => rfl
  | false => rw [c] at h; cases h

/-! ### settled -/
def downB (c : GCluster) (r : Nat) : Bool := anyN (c.places.getD r GPlace.z).machines.length fun k => !(machAt c r k).alive
theorem l11Down_q (c : GCluster) (b1 : c.places.length ≤ 1048576) (hok : ClusOk c) (r0 : Nat) (hr : r0 < c.places.length) : Ans Tryz.prog 60 [] [vR (cCluster c), vI r0] [] (vB (downB c r0)) := by
  have hp := hok.pl hr
  refine con_enter Tryz.func60 rfl rfl rfl fun B0 r_ D_ w0 => ?_
  refine T_auto TT_ok rfl ?_
  refine T_loopA (ι := Nat) (fun k => [(6, vI k)]) (fun _ => []) (fun k => k ≤ (c.places.getD r0 GPlace.z).machines.length ∧ ∀ j, j < k → (!(machAt c r0 j).alive) = false) (fun k => (c.places.getD r0 GPlace.z).machines.length - k) 0 [] [] rfl rfl ⟨Nat.zero_le _, fun j hj => absurd hj (Nat.not_lt_zero _)⟩ (by repeat (first | exact trivial | refine And.intro ⟨_, rfl, SV.imp_refl _⟩ ?_)) (by repeat (first | exact trivial | refine And.intro ⟨_, rfl, Ch.imp_refl _⟩ ?_)) ?_
  intro k ⟨h1, h2⟩
  refine T_auto TT_ok rfl ?_
  refine T_condD rfl (fun e => ?_) (fun e => ?_)
  · have hk : k < (c.places.getD r0 GPlace.z).machines.length := by simp at e ⊢; omega
    have hm := (hok.at hr hk).1
    refine T_auto TT_ok rfl ?_
    refine T_drawA TT_ok [] rfl rfl fun B0 H0 => ?_
    refine DJ_endA TT_ok rfl ?_
    refine T_cond rfl (fun e2 => ?_) (fun e2 => ?_)
    · refine T_auto TT_ok rfl ?_
      exact T_ansB TT_ok [(4, none)] rfl rfl ((anyN_at (p := fun k => !(machAt c r0 k).alive) hk e2).symm)
    · refine T_auto TT_ok rfl ?_
      exact X_inv (k + 1) ⟨hk, before_succ h2 e2⟩ (by omega) (by repeat (first | exact trivial | refine And.intro ⟨_, rfl, SV.imp_refl _⟩ ?_)) (by repeat (first | exact trivial | refine And.intro ⟨_, rfl, Ch.imp_refl _⟩ ?_))
  · refine T_auto TT_ok rfl ?_
    exact T_ansB TT_ok [(4, none)] rfl rfl ((anyN_no fun j hj => h2 j (by simp at e hj; omega)).symm)
def eqC (x y : GCell) : Bool := bif x.head == y.head then (bif x.value == y.value then true else false) else false
theorem eqC_iff {x y : GCell} : eqC x y = true ↔ x = y := by
  obtain ⟨a, b⟩ := x
  obtain ⟨c, d⟩ := y
  unfold eqC
  by_cases h : a = c <;> simp [h]
theorem ext_getD {α : Type} {z : α} {xs ys : List α} (hl : xs.length = ys.length) (h : ∀ i, i < xs.length → xs.getD i z = ys.getD i z) : xs = ys := by
  refine List.ext_getElem hl fun i h1 h2 => ?_
  have := h i h1
  simpa [h1, h2] using this
theorem l12Same_q (xs ys : List GCell) (h1 : xs.length = 6) (h2 : ys.length = 6) : Ans Tryz.prog 61 [] [vL 2 cCell GCell.z xs, vL 2 cCell GCell.z ys] [] (vB (dec (xs = ys))) := by
  refine con_enter Tryz.func61 rfl rfl rfl fun B0 r_ D_ w0 => ?_
  refine T_auto TT_ok rfl ?_
  refine T_loopA (ι := Nat) (fun i => [(5, vI i)]) (fun _ => []) (fun i => i ≤ 6 ∧ ∀ j, j < i → (!eqC (xs.getD j GCell.z) (ys.getD j GCell.z)) = false) (fun i => 6 - i) 0 [] [] rfl rfl ⟨Nat.zero_le _, fun j hj => absurd hj (Nat.not_lt_zero _)⟩ (by repeat (first | exact trivial | refine And.intro ⟨_, rfl, SV.imp_refl _⟩ ?_)) (by repeat (first | exact trivial | refine And.intro ⟨_, rfl, Ch.imp_refl _⟩ ?_)) ?_
  intro i ⟨h3, h4⟩
  refine T_auto TT_ok rfl ?_
  refine T_condD rfl (fun e => ?_) (fun e => ?_)
  · have hi : i < 6 := by omega
    refine T_auto TT_ok rfl ?_
    refine T_drawA TT_ok [] rfl rfl fun B0 H0 => ?_
    refine DJ_endA TT_ok rfl ?_
    refine T_cond rfl (fun e2 => ?_) (fun e2 => ?_)
    · refine T_auto TT_ok rfl ?_
      exact T_ansB TT_ok [(4, none)] rfl rfl ((dec_false fun h => by subst h; have e3 : (!eqC (xs.getD i GCell.z) (xs.getD i GCell.z)) = true := e2; rw [eqC_iff.2 rfl] at e3; cases e3).symm)
    · refine T_auto TT_ok rfl ?_
      exact X_inv (i + 1) ⟨hi, before_succ h4 e2⟩ (by omega) (by repeat (first | exact trivial | refine And.intro ⟨_, rfl, SV.imp_refl _⟩ ?_)) (by repeat (first | exact trivial | refine And.intro ⟨_, rfl, Ch.imp_refl _⟩ ?_))
  · refine T_auto TT_ok rfl ?_
    exact T_ansB TT_ok [(4, none)] rfl rfl ((dec_true (ext_getD (z := GCell.z) (by omega) fun i hi => eqC_iff.1 (by simpa using h4 i (by omega)))).symm)
theorem equalCell_q (xs ys : List GCell) (h1 : xs.length ≤ 1048576) (h2 : ys.length ≤ 1048576) : Ans Tryz.prog 128 [] [vL 2 cCell GCell.z xs, vL 2 cCell GCell.z ys] [] (vB (dec (xs = ys))) := by
  refine con_enter Tryz.func128 rfl rfl rfl fun B0 r_ D_ w0 => ?_
  refine T_auto TT_ok rfl ?_
  refine T_condN rfl (fun e => ?_) (fun e => ?_)
  · refine T_auto TT_ok rfl ?_
    exact T_ansB TT_ok [(4, none)] rfl rfl ((dec_false fun h => e (by rw [h])).symm)
  have hl : xs.length = ys.length := by omega
  refine T_auto TT_ok rfl ?_
  refine T_loopA (ι := Nat) (fun i => [(13, vI i)]) (fun _ => []) (fun i => i ≤ xs.length ∧ ∀ j, j < i → (!eqC (xs.getD j GCell.z) (ys.getD j GCell.z)) = false) (fun i => xs.length - i) 0 [] [] rfl rfl ⟨Nat.zero_le _, fun j hj => absurd hj (Nat.not_lt_zero _)⟩ (by repeat (first | exact trivial | refine And.intro ⟨_, rfl, SV.imp_refl _⟩ ?_)) (by repeat (first | exact trivial | refine And.intro ⟨_, rfl, Ch.imp_refl _⟩ ?_)) ?_
  intro i ⟨h3, h4⟩
  refine T_auto TT_ok rfl ?_
  refine T_condD rfl (fun e => ?_) (fun e => ?_)
  · have hi : i < xs.length := by omega
    refine T_auto TT_ok rfl ?_
    refine T_drawA TT_ok [] rfl rfl fun B0 H0 => ?_
    refine DJ_endA TT_ok rfl ?_
    refine T_cond rfl (fun e2 => ?_) (fun e2 => ?_)
    · refine T_auto TT_ok rfl ?_
      exact T_ansB TT_ok [(4, none)] rfl rfl ((dec_false fun h => by subst h; have e3 : (!eqC (xs.getD i GCell.z) (xs.getD i GCell.z)) = true := e2; rw [eqC_iff.2 rfl] at e3; cases e3).symm)
    · refine T_auto TT_ok rfl ?_
      exact X_inv (i + 1) ⟨hi, before_succ h4 e2⟩ (by omega) (by repeat (first | exact trivial | refine And.intro ⟨_, rfl, SV.imp_refl _⟩ ?_)) (by repeat (first | exact trivial | refine And.intro ⟨_, rfl, Ch.imp_refl _⟩ ?_))
  · refine T_auto TT_ok rfl ?_
    exact T_ansB TT_ok [(4, none)] rfl rfl ((dec_true (ext_getD (z := GCell.z) hl fun i hi => eqC_iff.1 (by simpa using h4 i (by omega)))).symm)
/-- all copies are alike, nothing is locked or logged -/
def SettledP (c : GCluster) : Prop := ClusOk c ∧ c.lost = false ∧ (∀ i, i < c.machines.length → (c.machines.getD i GMachine.z).log.length = 0) ∧ ∀ r, r < c.places.length → downB c r = false ∧ (∀ k, k < (c.places.getD r GPlace.z).machines.length → cellsOf (machAt c r 0) r = cellsOf (machAt c r k) r) ∧ ∀ s, s < 6 → lockedB ((cellsOf (machAt c r 0) r).getD s GCell.z).head = false
theorem spec_Settled_q (c : GCluster) (hb : D.bds bigN (cCluster c)) : Ans Tryz.prog 17 [] [vR (cCluster c)] [] (vB (dec (SettledP c))) := by
  have b1 : c.places.length ≤ 1048576 := hb.2.2.1.1
  have b2 : c.machines.length ≤ 1048576 := hb.2.2.2.1.1
  refine con_enter Tryz.func17 rfl rfl rfl fun B0 r_ D_ w0 => ?_
  refine T_auto1 TT_ok rfl ?_
  refine T_freeze 1 rfl rfl rfl rfl (fun _ => rfl) (fun _ => rfl) fun r_ => ?_
  refine T_auto TT_ok rfl ?_
  refine RJ_Q TT_ok (spec_ClusterOk_q c hb) rfl rfl rfl rfl rfl ?_
  refine T_cond rfl (fun e => ?_) (fun e => ?_)
  · refine T_auto TT_ok rfl ?_
    exact T_ansB TT_ok [(2, none)] rfl rfl ((dec_false fun h => by rw [dec_true h.1, h.2.1] at e; cases e).symm)
  have hH : ClusOk c ∧ c.lost = false := by
    cases c1 : dec (ClusOk c) with
    | false => rw [c1] at e; cases e
    | true => rw [c1] at e; exact ⟨dec_iff.1 c1, e⟩
  obtain ⟨hok, hlost⟩ := hH
  clear e
  refine T_auto TT_ok rfl ?_
  refine T_loopA (ι := Nat) (fun i => [(3, vI i)]) (fun _ => []) (fun i => i ≤ c.machines.length ∧ ∀ j, j < i → (c.machines.getD j GMachine.z).log.length = 0) (fun i => c.machines.length - i) 0 [] [] rfl rfl ⟨Nat.zero_le _, fun j hj => absurd hj (Nat.not_lt_zero _)⟩ (by repeat (first | exact trivial | refine And.intro ⟨_, rfl, SV.imp_refl _⟩ ?_)) (by repeat (first | exact trivial | refine And.intro ⟨_, rfl, Ch.imp_refl _⟩ ?_)) ?_
  intro i ⟨h1, h2⟩
  refine T_auto TT_ok rfl ?_
  refine T_condD rfl (fun e => ?_) (fun e => ?_)
  · have hi : i < c.machines.length := by omega
    refine T_auto TT_ok rfl ?_
    refine T_condD rfl (fun e1 => ?_) (fun e1 => ?_)
    · refine T_auto TT_ok rfl ?_
      exact T_ansB TT_ok [(2, none)] rfl rfl ((dec_false fun h => by have := h.2.2.1 i hi; have e2 : ((c.machines.getD i GMachine.z).log.length : Int) > 0 := e1; omega).symm)
    · refine T_auto TT_ok rfl ?_
      exact X_inv (i + 1) ⟨hi, before_succ h2 (by have e2 : ¬ ((c.machines.getD i GMachine.z).log.length : Int) > 0 := e1; omega)⟩ (by omega) (by repeat (first | exact trivial | refine And.intro ⟨_, rfl, SV.imp_refl _⟩ ?_)) (by repeat (first | exact trivial | refine And.intro ⟨_, rfl, Ch.imp_refl _⟩ ?_))
  have hi : i = c.machines.length := by omega
  subst hi
  clear e h1
  refine T_auto TT_ok rfl ?_
  refine T_loopA (ι := Nat) (fun i => [(4, vI i)]) (fun _ => []) (fun i => i ≤ c.places.length ∧ ∀ r, r < i → downB c r = false ∧ (∀ k, k < (c.places.getD r GPlace.z).machines.length → cellsOf (machAt c r 0) r = cellsOf (machAt c r k) r) ∧ ∀ s, s < 6 → lockedB ((cellsOf (machAt c r 0) r).getD s GCell.z).head = false) (fun i => c.places.length - i) 0 [] [] rfl rfl ⟨Nat.zero_le _, fun j hj => absurd hj (Nat.not_lt_zero _)⟩ (by repeat (first | exact trivial | refine And.intro ⟨_, rfl, SV.imp_refl _⟩ ?_)) (by repeat (first | exact trivial | refine And.intro ⟨_, rfl, Ch.imp_refl _⟩ ?_)) ?_
  intro i ⟨h1, h3⟩
  refine T_auto TT_ok rfl ?_
  refine T_condD rfl (fun e => ?_) (fun e => ?_)
  · have hi : i < c.places.length := by omega
    have hpl := hok.pl hi
    refine T_auto TT_ok rfl ?_
    refine RJ_Q TT_ok (l11Down_q c b1 hok i hi) rfl rfl rfl rfl rfl ?_
    refine T_cond rfl (fun e1 => ?_) (fun e1 => ?_)
    · refine T_auto TT_ok rfl ?_
      exact T_ansB TT_ok [(2, none)] rfl rfl ((dec_false fun h => by rw [(h.2.2.2 i hi).1] at e1; cases e1).symm)
    have hal : ∀ k, k < (c.places.getD i GPlace.z).machines.length → (machAt c i k).alive = true := fun k hk => by simpa using anyN_get e1 k hk
    have h0 := hok.at hi (k := 0) (by omega)
    have g0 := h0.1
    have hh0 := h0.2 (hal 0 (by omega))
    have gi0 := hasB_idx hh0
    have hc0 := cellsOf_len (hok.mach hi (k := 0) (by omega)) hh0
    refine T_auto TT_ok rfl ?_
    refine T_drawA TT_ok [] rfl rfl fun B0 H0 => ?_
    refine DJ_one 7 rfl (by kernel_rfl) (OJ_M TT_ok rfl rfl rfl rfl rfl rfl (SJ_dj ?_))
    refine DJ_one 8 rfl (by kernel_rfl) (OJ_M TT_ok rfl rfl rfl rfl rfl rfl (SJ_dj ?_))
    refine DJ_endA TT_ok rfl ?_
    refine T_drawA TT_ok [] rfl rfl fun B0 H0 => ?_
    refine DJ_Q TT_ok (l6At_q (machAt c i 0) (bdM_any hb _).2.1.1 _) rfl rfl rfl rfl rfl rfl ?_
    refine DJ_endA TT_ok rfl ?_
    refine T_loopA (ι := Nat) (fun k => [(8, vI k)]) (fun _ => []) (fun k => k ≤ (c.places.getD i GPlace.z).machines.length ∧ (∀ j, j < k → cellsOf (machAt c i 0) i = cellsOf (machAt c i j) i) ∧ (0 < k → ∀ s, s < 6 → lockedB ((cellsOf (machAt c i 0) i).getD s GCell.z).head = false)) (fun k => (c.places.getD i GPlace.z).machines.length - k) 0 [] [] rfl rfl ⟨Nat.zero_le _, (fun j hj => absurd hj (Nat.not_lt_zero _)), fun h => absurd h (Nat.lt_irrefl _)⟩ (by repeat (first | exact trivial | refine And.intro ⟨_, rfl, SV.imp_refl _⟩ ?_)) (by repeat (first | exact trivial | refine And.intro ⟨_, rfl, Ch.imp_refl _⟩ ?_)) ?_
    intro k ⟨g1, g2, g3⟩
    refine T_auto TT_ok rfl ?_
    refine T_condD rfl (fun e2 => ?_) (fun e2 => ?_)
    · have hk : k < (c.places.getD i GPlace.z).machines.length := by simp at e2 ⊢; omega
      have hk0 := hok.at hi hk
      have gk := hk0.1
      have hhk := hk0.2 (hal k hk)
      have gik := hasB_idx hhk
      have hck := cellsOf_len (hok.mach hi hk) hhk
      refine T_auto TT_ok rfl ?_
      refine T_drawA TT_ok [] rfl rfl fun B0 H0 => ?_
      refine DJ_one 8 rfl (by kernel_rfl) (OJ_M TT_ok rfl rfl rfl rfl rfl rfl (SJ_dj ?_))
      refine DJ_one 9 rfl (by kernel_rfl) (OJ_M TT_ok rfl rfl rfl rfl rfl rfl (SJ_dj ?_))
      refine DJ_endA TT_ok rfl ?_
      refine T_drawA TT_ok [] rfl rfl fun B0 H0 => ?_
      refine DJ_Q TT_ok (l6At_q (machAt c i k) (bdM_any hb _).2.1.1 _) rfl rfl rfl rfl rfl rfl ?_
      refine DJ_endA TT_ok rfl ?_
      refine RJ_Q TT_ok (l12Same_q _ _ ((congrArg List.length (cellsOf_has hh0)).symm.trans hc0.1) ((congrArg List.length (cellsOf_has hhk)).symm.trans hck.1)) rfl rfl rfl rfl rfl ?_
      refine T_condX rfl (fun e3 => ?_) (fun e3 => ?_)
      · refine T_auto TT_ok rfl ?_
        exact T_ansB TT_ok [(2, none)] rfl rfl ((dec_false fun h => by have := (h.2.2.2 i hi).2.1 k hk; rw [cellsOf_has hh0, cellsOf_has hhk] at this; exact dec_not.1 e3 this).symm)
      have hsame : cellsOf (machAt c i 0) i = cellsOf (machAt c i k) i := by rw [cellsOf_has hh0, cellsOf_has hhk]; exact dec_iff.1 e3
      have hlk : ((machAt c i k).copies.getD (idxI (atB i) (machAt c i k).copies).toNat GCopy.z).cells.length = 6 := (congrArg List.length (cellsOf_has hhk)).symm.trans hck.1
      refine T_auto TT_ok rfl ?_
      refine T_loopA (ι := Nat) (fun s => [(11, vI s)]) (fun _ => []) (fun s => s ≤ 6 ∧ ∀ j, j < s → lockedB ((cellsOf (machAt c i k) i).getD j GCell.z).head = false) (fun s => 6 - s) 0 [] [] rfl rfl ⟨Nat.zero_le _, fun j hj => absurd hj (Nat.not_lt_zero _)⟩ (by repeat (first | exact trivial | refine And.intro ⟨_, rfl, SV.imp_refl _⟩ ?_)) (by repeat (first | exact trivial | refine And.intro ⟨_, rfl, Ch.imp_refl _⟩ ?_)) ?_
      intro s ⟨s1, s2⟩
      refine T_auto TT_ok rfl ?_
      refine T_condD rfl (fun e4 => ?_) (fun e4 => ?_)
      · have hs : s < 6 := by omega
        refine T_auto TT_ok rfl ?_
        refine RJ_Q TT_ok (spec_Locked_q _) rfl rfl rfl rfl rfl ?_
        refine T_cond rfl (fun e5 => ?_) (fun e5 => ?_)
        · refine T_auto TT_ok rfl ?_
          exact T_ansB TT_ok [(2, none)] rfl rfl ((dec_false fun h => by have := (h.2.2.2 i hi).2.2 s hs; rw [hsame, cellsOf_has hhk] at this; exact Bool.noConfusion (this.symm.trans e5)).symm)
        · refine T_auto TT_ok rfl ?_
          exact X_inv (s + 1) ⟨hs, before_succ s2 (by rw [cellsOf_has hhk]; exact e5)⟩ (by omega) (by repeat (first | exact trivial | refine And.intro ⟨_, rfl, SV.imp_refl _⟩ ?_)) (by repeat (first | exact trivial | refine And.intro ⟨_, rfl, Ch.imp_refl _⟩ ?_))
      · refine T_auto TT_ok rfl ?_
        exact X_inv (k + 1) ⟨hk, before_succ g2 hsame, fun _ s hs => by rw [hsame]; exact s2 s (by omega)⟩ (by omega) (by repeat (first | exact trivial | refine And.intro ⟨_, rfl, SV.imp_refl _⟩ ?_)) (by repeat (first | exact trivial | refine And.intro ⟨_, rfl, Ch.imp_refl _⟩ ?_))
    · have hk : k = (c.places.getD i GPlace.z).machines.length := by simp at e2 g1 ⊢; omega
      refine T_auto TT_ok rfl ?_
      exact X_inv (i + 1) ⟨hi, before_succ h3 ⟨e1, fun j hj => g2 j (by omega), g3 (by omega)⟩⟩ (by omega) (by repeat (first | exact trivial | refine And.intro ⟨_, rfl, SV.imp_refl _⟩ ?_)) (by repeat (first | exact trivial | refine And.intro ⟨_, rfl, Ch.imp_refl _⟩ ?_))
  · refine T_auto TT_ok rfl ?_
    exact T_ansB TT_ok [(2, none)] rfl rfl ((dec_true ⟨hok, hlost, h2, fun r hr => h3 r (by omega)⟩).symm)
end Go.Proofs.YtiegllklalplnaaGreat
