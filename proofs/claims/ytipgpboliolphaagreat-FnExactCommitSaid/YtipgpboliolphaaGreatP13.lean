
/-
  Whether settled, and votes; on both sides.
-/
import Derived.Test.YtipgpboliolphaaGreatP12
namespace Go.Proofs.YtipgpboliolphaaGreat
open Go Go.RowKit
set_option linter.unusedVariables false
set_option linter.unusedSimpArgs false
set_option maxRecDepth 4000

theorem primary_q (c : GCluster) (r0 : Nat) (hr : r0 < c.places.length) (hp : 0 < (c.places.getD r0 GPlace.z).machines.length) (hin : 0 ≤ mAt c r0 0 ∧ mAt c r0 0 < c.machines.length) : Ans Tryz.prog 70 [] [vP (cCluster c), vI r0] [] (vP (cMachine (machAt c r0 0))) := by
  refine con_enter Tryz.func70 rfl rfl rfl fun B0 r_ D_ w0 => ?_
  refine T_auto TT_ok rfl ?_
  refine T_drawA TT_ok [] rfl rfl fun B0 H0 => ?_
  refine DJ_endA TT_ok rfl ?_
  exact T_ans TT_ok [(4, none)] rfl rfl (rfl)
theorem locked_any {xs : List GCell} (h : cellsB xs = true) (hl : xs.length = 6) : (xs.any fun x => andI x.head 1 != 0) = false ↔ ∀ s, s < 6 → lockedB (xs.getD s GCell.z).head = false := by
  constructor
  · intro e s hs
    have := any_get (z := GCell.z) e s (by omega)
    rwa [locked1 (headB_cell (cellsB_get h (by omega)))] at this
  · intro e
    exact any_no (z := GCell.z) fun s hs => by rw [locked1 (headB_cell (cellsB_get h hs))]; exact e s (by omega)
theorem settled_end {c : GCluster} {i : Nat} {p : Nat → Prop} (h3 : ∀ r, r < i → p r) (e : ¬ (i : Int) < c.places.length) : (!c.machines.any fun m => decide ((m.log.length : Int) > 0)) = dec ((∀ i, i < c.machines.length → (c.machines.getD i GMachine.z).log.length = 0) ∧ ∀ r, r < c.places.length → p r) := by
  rw [Bool.eq_iff_iff, dec_iff]
  constructor
  · intro h
    refine ⟨fun j hj => ?_, fun r hr => h3 r (by omega)⟩
    have := any_get (z := GMachine.z) (by simpa using h : (c.machines.any fun m => decide ((m.log.length : Int) > 0)) = false) j hj
    have := of_decide_eq_false this
    omega
  · rintro ⟨h, _⟩
    rw [any_no (z := GMachine.z) fun j hj => decide_eq_false (by rw [h j hj]; omega)]; rfl
theorem settled_law (c : GCluster) (hok : ClusOk c) : (bif (bif dec (ClusOk c) then !c.lost else false) then dec ((∀ i, i < c.machines.length → (c.machines.getD i GMachine.z).log.length = 0) ∧ ∀ r, r < c.places.length → downB c r = false ∧ (∀ k, k < (c.places.getD r GPlace.z).machines.length → cellsOf (machAt c r 0) r = cellsOf (machAt c r k) r) ∧ ∀ s, s < 6 → lockedB ((cellsOf (machAt c r 0) r).getD s GCell.z).head = false) else false) = dec (SettledP c) := by
  rw [dec_true hok, Bool.eq_iff_iff, dec_iff]
  cases h : c.lost with
  | true => simp [SettledP, h]
  | false =>
    simp only [Bool.cond_true, Bool.not_false, dec_iff]
    exact ⟨fun k => ⟨hok, h, k.1, k.2⟩, fun k => k.2.2⟩
/-! ### votes -/
def atLog (tx r kind : Int) (x : GRecord) : Bool := bif (bif x.tx == tx then x.region == r else false) then x.kind == kind else false
def logI (m : GMachine) (tx r kind : Int) : Int := idxI (atLog tx r kind) m.log
theorem l6Logged_q (m : GMachine) (hl : m.log.length ≤ 1048576) (tx r0 kind : Int) : Ans Tryz.prog 180 [] [vR (cMachine m), vI tx, vI r0, vI kind] [] (vI (logI m tx r0 kind)) := by
  refine con_enter Tryz.func180 rfl rfl rfl fun B0 r_ D_ w0 => ?_
  refine T_auto TT_ok rfl ?_
  refine T_loopA (ι := Nat) (fun i => [(9, vI i)]) (fun _ => []) (fun i => i ≤ m.log.length ∧ ∀ j, j < i → atLog tx r0 kind (m.log.getD j GRecord.z) = false) (fun i => m.log.length - i) 0 [] [] rfl rfl ⟨Nat.zero_le _, fun j hj => absurd hj (Nat.not_lt_zero _)⟩ (by repeat (first | exact trivial | refine And.intro ⟨_, rfl, SV.imp_refl _⟩ ?_)) (by repeat (first | exact trivial | refine And.intro ⟨_, rfl, Ch.imp_refl _⟩ ?_)) ?_
  intro i ⟨h1, h2⟩
  refine T_auto TT_ok rfl ?_
  refine T_condD rfl (fun e => ?_) (fun e => ?_)
  · have hi : i < m.log.length := by omega
    refine T_auto TT_ok rfl ?_
    refine T_cond rfl (fun e2 => ?_) (fun e2 => ?_)
    · refine T_auto TT_ok rfl ?_
      exact T_ansI TT_ok [(8, none)] rfl rfl ((idxI_at (p := atLog tx r0 kind) hi h2 e2).symm)
    · refine T_auto TT_ok rfl ?_
      exact X_inv (i + 1) ⟨hi, before_succ h2 e2⟩ (by omega) (by repeat (first | exact trivial | refine And.intro ⟨_, rfl, SV.imp_refl _⟩ ?_)) (by repeat (first | exact trivial | refine And.intro ⟨_, rfl, Ch.imp_refl _⟩ ?_))
  · refine T_auto TT_ok rfl ?_
    exact T_ansI TT_ok [(8, none)] rfl rfl ((idxI_no fun j hj => h2 j (by omega)).symm)
theorem logged1_q (x : GRecord) (tx r0 kind : Int) : Ans Tryz.prog 301 [] [vR (cRecord x), vP [dI tx], vP [dI r0], vP [dI kind]] [] (vB (atLog tx r0 kind x)) := by
  refine con_enter Tryz.func301 rfl rfl rfl fun B0 r_ D_ w0 => ?_
  refine T_auto TT_ok rfl ?_
  exact T_ansB TT_ok [(5, none)] rfl rfl (rfl)
theorem logged_q (m : GMachine) (hl : m.log.length ≤ 1048576) (tx r0 kind : Int) : Ans Tryz.prog 256 [] [vP (cMachine m), vI tx, vI r0, vI kind] [] (vI (logI m tx r0 kind)) := by
  refine con_enter Tryz.func256 rfl rfl rfl fun B0 r_ D_ w0 => ?_
  refine T_auto TT_ok rfl ?_
  refine RJ_QF TT_ok (indexFuncRecord_p m.log hl (fun _ => True) (fun _ _ => trivial) (atLog tx r0 kind)) rfl rfl (SVs.cons (SV.imp_refl _) (SVs.cons (imp_fb (enters_B (by kernel_rfl)) rfl fun args x ⟨n, _, e1, e2⟩ => by subst e1; subst e2; exact logged1_q n _ _ _) rfl)) rfl rfl ?_
  exact T_ansI TT_ok [(8, none)] rfl rfl (rfl)
def maxI (a b : Int) : Int := if a > b then a else b
theorem maxI_impl (a b : Int) : (if b > a then b else a) = maxI a b := by unfold maxI; split <;> split <;> omega
theorem l1Max_q (a b : Int) : Ans Tryz.prog 242 [] [vI a, vI b] [] (vI (maxI a b)) := by
  refine con_enter Tryz.func242 rfl rfl rfl fun B0 r_ D_ w0 => ?_
  refine T_auto TT_ok rfl ?_
  refine T_condD rfl (fun e => ?_) (fun e => ?_)
  · refine T_auto TT_ok rfl ?_
    exact T_ansI TT_ok [(4, none)] rfl rfl ((if_pos e).symm)
  · refine T_auto TT_ok rfl ?_
    exact T_ansI TT_ok [(4, none)] rfl rfl ((if_neg e).symm)
/-- what machine number k adds to a vote -/
def stepV (c : GCluster) (id r : Int) (k : Nat) (best : Int) : Int :=
  let m := machAt c r.toNat k
  if m.alive = false then best else if (bif decide (logI m id r 3 ≥ 0) then true else decide (id ∈ m.cleared)) = true then maxI best 4 else if decide (logI m id r 2 ≥ 0) = true then maxI best 3 else if (bif ((k : Int) == 0) then decide (logI m id r 1 ≥ 0) else false) = true then maxI best 2 else best
def voteN (c : GCluster) (id r : Int) : Nat → Int
  | 0 => 1
  | k + 1 => stepV c id r k (voteN c id r k)
theorem l11Vote_q (c : GCluster) (hb : D.bds bigN (cCluster c)) (hok : ClusOk c) (id r0 : Int) (hr : 0 ≤ r0 ∧ r0 < c.places.length) : Ans Tryz.prog 177 [] [vR (cCluster c), vI id, vI r0] [] (vI (voteN c id r0 (c.places.getD r0.toNat GPlace.z).machines.length)) := by
  have hp := hok.pl (r := r0.toNat) (by omega)
  refine con_enter Tryz.func177 rfl rfl rfl fun B0 r_ D_ w0 => ?_
  refine T_auto TT_ok rfl ?_
  refine T_loopA (ι := Nat) (fun k => [(9, vI k), (8, vI (voteN c id r0 k))]) (fun _ => []) (fun k => k ≤ (c.places.getD r0.toNat GPlace.z).machines.length) (fun k => (c.places.getD r0.toNat GPlace.z).machines.length - k) 0 [] [] rfl rfl (Nat.zero_le _) (by repeat (first | exact trivial | refine And.intro ⟨_, rfl, SV.imp_refl _⟩ ?_)) (by repeat (first | exact trivial | refine And.intro ⟨_, rfl, Ch.imp_refl _⟩ ?_)) ?_
  intro k h1
  refine T_auto TT_ok rfl ?_
  refine T_condD rfl (fun e => ?_) (fun e => ?_)
  · have hk : k < (c.places.getD r0.toNat GPlace.z).machines.length := by simp at e ⊢; omega
    have hm := (hok.at (r := r0.toNat) (by omega) hk).1
    have bm := bdM_any hb (mAt c r0.toNat k).toNat
    have bl : (machAt c r0.toNat k).log.length ≤ 1048576 := bm.2.2.1.1
    have bc : (machAt c r0.toNat k).cleared.length ≤ 1048576 := bm.2.2.2.1.1
    refine T_auto TT_ok rfl ?_
    refine T_drawA TT_ok [] rfl rfl fun B0 H0 => ?_
    refine DJ_one 8 rfl (by kernel_rfl) (OJ_M TT_ok rfl rfl rfl rfl rfl rfl (SJ_dj ?_))
    refine DJ_one 9 rfl (by kernel_rfl) (OJ_M TT_ok rfl rfl rfl rfl rfl rfl (SJ_dj ?_))
    refine DJ_endA TT_ok rfl ?_
    refine T_condX rfl (fun e1 => ?_) (fun e1 => ?_)
    · refine T_auto TT_ok rfl ?_
      exact X_inv (k + 1) hk (by omega) ⟨⟨_, rfl, SV.imp_refl _⟩, ⟨_, rfl, SV.imp_of (vI_eq (show _ = stepV _ _ _ _ _ from (if_pos e1).symm))⟩, (by repeat (first | exact trivial | refine And.intro ⟨_, rfl, SV.imp_refl _⟩ ?_))⟩ (by repeat (first | exact trivial | refine And.intro ⟨_, rfl, Ch.imp_refl _⟩ ?_))
    have e1' : ¬ (machAt c r0.toNat k).alive = false := by rw [show (machAt c r0.toNat k).alive = true from e1]; simp
    refine T_auto TT_ok rfl ?_
    refine RJ_Q TT_ok (l6Logged_q _ bl _ _ _) rfl rfl rfl rfl rfl ?_
    refine RJ_Q TT_ok (l3Has_q _ bc _) rfl rfl rfl rfl rfl ?_
    refine T_cond rfl (fun e2 => ?_) (fun e2 => ?_)
    · refine T_auto TT_ok rfl ?_
      refine RJ_Q TT_ok (l1Max_q _ _) rfl rfl rfl rfl rfl ?_
      exact X_inv (k + 1) hk (by omega) ⟨⟨_, rfl, SV.imp_refl _⟩, ⟨_, rfl, SV.imp_of (vI_eq (show _ = stepV _ _ _ _ _ from ((if_neg e1').trans (if_pos e2)).symm))⟩, (by repeat (first | exact trivial | refine And.intro ⟨_, rfl, SV.imp_refl _⟩ ?_))⟩ (by repeat (first | exact trivial | refine And.intro ⟨_, rfl, Ch.imp_refl _⟩ ?_))
    have e2' := Bool.eq_false_iff.1 e2
    refine T_auto TT_ok rfl ?_
    refine RJ_Q TT_ok (l6Logged_q _ bl _ _ _) rfl rfl rfl rfl rfl ?_
    refine T_cond rfl (fun e3 => ?_) (fun e3 => ?_)
    · refine T_auto TT_ok rfl ?_
      refine RJ_Q TT_ok (l1Max_q _ _) rfl rfl rfl rfl rfl ?_
      exact X_inv (k + 1) hk (by omega) ⟨⟨_, rfl, SV.imp_refl _⟩, ⟨_, rfl, SV.imp_of (vI_eq (show _ = stepV _ _ _ _ _ from ((if_neg e1').trans ((if_neg e2').trans (if_pos e3))).symm))⟩, (by repeat (first | exact trivial | refine And.intro ⟨_, rfl, SV.imp_refl _⟩ ?_))⟩ (by repeat (first | exact trivial | refine And.intro ⟨_, rfl, Ch.imp_refl _⟩ ?_))
    have e3' := Bool.eq_false_iff.1 e3
    refine T_auto TT_ok rfl ?_
    refine RJ_Q TT_ok (l6Logged_q _ bl _ _ _) rfl rfl rfl rfl rfl ?_
    refine T_cond rfl (fun e4 => ?_) (fun e4 => ?_)
    · refine T_auto TT_ok rfl ?_
      refine RJ_Q TT_ok (l1Max_q _ _) rfl rfl rfl rfl rfl ?_
      exact X_inv (k + 1) hk (by omega) ⟨⟨_, rfl, SV.imp_refl _⟩, ⟨_, rfl, SV.imp_of (vI_eq (show _ = stepV _ _ _ _ _ from ((if_neg e1').trans ((if_neg e2').trans ((if_neg e3').trans (if_pos e4)))).symm))⟩, (by repeat (first | exact trivial | refine And.intro ⟨_, rfl, SV.imp_refl _⟩ ?_))⟩ (by repeat (first | exact trivial | refine And.intro ⟨_, rfl, Ch.imp_refl _⟩ ?_))
    · have e4' := Bool.eq_false_iff.1 e4
      refine T_auto TT_ok rfl ?_
      exact X_inv (k + 1) hk (by omega) ⟨⟨_, rfl, SV.imp_refl _⟩, ⟨_, rfl, SV.imp_of (vI_eq (show _ = stepV _ _ _ _ _ from ((if_neg e1').trans ((if_neg e2').trans ((if_neg e3').trans (if_neg e4')))).symm))⟩, (by repeat (first | exact trivial | refine And.intro ⟨_, rfl, SV.imp_refl _⟩ ?_))⟩ (by repeat (first | exact trivial | refine And.intro ⟨_, rfl, Ch.imp_refl _⟩ ?_))
  · have hk : k = (c.places.getD r0.toNat GPlace.z).machines.length := by simp at e h1 ⊢; omega
    subst hk
    refine T_auto TT_ok rfl ?_
    exact T_ansI TT_ok [(6, none)] rfl rfl (rfl)
theorem impl_vote_q (c : GCluster) (hb : D.bds bigN (cCluster c)) (hok : ClusOk c) (id r0 : Int) (hr : 0 ≤ r0 ∧ r0 < c.places.length) : Ans Tryz.prog 252 [] [vP (cCluster c), vI id, vI r0] [] (vI (voteN c id r0 (c.places.getD r0.toNat GPlace.z).machines.length)) := by
  have hp := hok.pl (r := r0.toNat) (by omega)
  refine con_enter Tryz.func252 rfl rfl rfl fun B0 r_ D_ w0 => ?_
  refine T_auto TT_ok rfl ?_
  refine T_loopA (ι := Nat) (fun k => [(20, vI k), (7, vI (voteN c id r0 k))]) (fun _ => []) (fun k => k ≤ (c.places.getD r0.toNat GPlace.z).machines.length) (fun k => (c.places.getD r0.toNat GPlace.z).machines.length - k) 0 [] [] rfl rfl (Nat.zero_le _) (by repeat (first | exact trivial | refine And.intro ⟨_, rfl, SV.imp_refl _⟩ ?_)) (by repeat (first | exact trivial | refine And.intro ⟨_, rfl, Ch.imp_refl _⟩ ?_)) ?_
  intro k h1
  refine T_auto TT_ok rfl ?_
  refine T_condD rfl (fun e => ?_) (fun e => ?_)
  · have hk : k < (c.places.getD r0.toNat GPlace.z).machines.length := by simp at e ⊢; omega
    have hm := (hok.at (r := r0.toNat) (by omega) hk).1
    have bm := bdM_any hb (mAt c r0.toNat k).toNat
    have bl : (machAt c r0.toNat k).log.length ≤ 1048576 := bm.2.2.1.1
    have bc : (machAt c r0.toNat k).cleared.length ≤ 1048576 := bm.2.2.2.1.1
    refine T_auto TT_ok rfl ?_
    refine T_condX rfl (fun e1 => ?_) (fun e1 => ?_)
    · refine T_auto TT_ok rfl ?_
      exact X_inv (k + 1) hk (by omega) ⟨⟨_, rfl, SV.imp_refl _⟩, ⟨_, rfl, SV.imp_of (vI_eq (show _ = stepV _ _ _ _ _ from (if_pos e1).symm))⟩, (by repeat (first | exact trivial | refine And.intro ⟨_, rfl, SV.imp_refl _⟩ ?_))⟩ (by repeat (first | exact trivial | refine And.intro ⟨_, rfl, Ch.imp_refl _⟩ ?_))
    have e1' : ¬ (machAt c r0.toNat k).alive = false := by rw [show (machAt c r0.toNat k).alive = true from e1]; simp
    refine T_auto TT_ok rfl ?_
    refine RJ_Q TT_ok (logged_q _ bl _ _ _) rfl rfl rfl rfl rfl ?_
    refine RJ_Q TT_ok (contains_Int_q _ bc _) rfl rfl rfl rfl rfl ?_
    refine T_cond rfl (fun e2 => ?_) (fun e2 => ?_)
    · refine T_auto TT_ok rfl ?_
      exact X_inv (k + 1) hk (by omega) ⟨⟨_, rfl, SV.imp_refl _⟩, ⟨_, rfl, SV.imp_of (vI_eq (show _ = stepV _ _ _ _ _ from ((if_neg e1').trans ((if_pos e2).trans (maxI_impl _ _).symm)).symm))⟩, (by repeat (first | exact trivial | refine And.intro ⟨_, rfl, SV.imp_refl _⟩ ?_))⟩ (by repeat (first | exact trivial | refine And.intro ⟨_, rfl, Ch.imp_refl _⟩ ?_))
    have e2' := Bool.eq_false_iff.1 e2
    refine T_auto TT_ok rfl ?_
    refine RJ_Q TT_ok (logged_q _ bl _ _ _) rfl rfl rfl rfl rfl ?_
    refine T_cond rfl (fun e3 => ?_) (fun e3 => ?_)
    · refine T_auto TT_ok rfl ?_
      exact X_inv (k + 1) hk (by omega) ⟨⟨_, rfl, SV.imp_refl _⟩, ⟨_, rfl, SV.imp_of (vI_eq (show _ = stepV _ _ _ _ _ from ((if_neg e1').trans ((if_neg e2').trans ((if_pos e3).trans (maxI_impl _ _).symm))).symm))⟩, (by repeat (first | exact trivial | refine And.intro ⟨_, rfl, SV.imp_refl _⟩ ?_))⟩ (by repeat (first | exact trivial | refine And.intro ⟨_, rfl, Ch.imp_refl _⟩ ?_))
    have e3' := Bool.eq_false_iff.1 e3
    refine T_auto TT_ok rfl ?_
    refine RJ_Q TT_ok (logged_q _ bl _ _ _) rfl rfl rfl rfl rfl ?_
    refine T_cond rfl (fun e4 => ?_) (fun e4 => ?_)
    · refine T_auto TT_ok rfl ?_
      exact X_inv (k + 1) hk (by omega) ⟨⟨_, rfl, SV.imp_refl _⟩, ⟨_, rfl, SV.imp_of (vI_eq (show _ = stepV _ _ _ _ _ from ((if_neg e1').trans ((if_neg e2').trans ((if_neg e3').trans ((if_pos e4).trans (maxI_impl _ _).symm)))).symm))⟩, (by repeat (first | exact trivial | refine And.intro ⟨_, rfl, SV.imp_refl _⟩ ?_))⟩ (by repeat (first | exact trivial | refine And.intro ⟨_, rfl, Ch.imp_refl _⟩ ?_))
    · have e4' := Bool.eq_false_iff.1 e4
      refine T_auto TT_ok rfl ?_
      exact X_inv (k + 1) hk (by omega) ⟨⟨_, rfl, SV.imp_refl _⟩, ⟨_, rfl, SV.imp_of (vI_eq (show _ = stepV _ _ _ _ _ from ((if_neg e1').trans ((if_neg e2').trans ((if_neg e3').trans (if_neg e4')))).symm))⟩, (by repeat (first | exact trivial | refine And.intro ⟨_, rfl, SV.imp_refl _⟩ ?_))⟩ (by repeat (first | exact trivial | refine And.intro ⟨_, rfl, Ch.imp_refl _⟩ ?_))
  · have hk : k = (c.places.getD r0.toNat GPlace.z).machines.length := by simp at e h1 ⊢; omega
    subst hk
    refine T_auto TT_ok rfl ?_
    exact T_ansI TT_ok [(6, none)] rfl rfl (rfl)
end Go.Proofs.YtipgpboliolphaaGreat
