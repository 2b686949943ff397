
/-
  Clusters are asked: votes, who is up, cells; on both sides.
-/
import Derived.Test.YtpfcfepbhdkpdaaGreatP13
namespace Go.Proofs.YtpfcfepbhdkpdaaGreat
open Go Go.RowKit
set_option linter.unusedVariables false
set_option linter.unusedSimpArgs false
set_option maxRecDepth 4000

/-- where a transaction stands -/
def findI (c : GCluster) (id : Int) : Int := idxI (fun t : GTx => t.id == id) c.txs
theorem l8Find_q (c : GCluster) (hl : c.txs.length ≤ 1048576) (id : Int) : Ans Tryz.prog 64 [] [vR (cCluster c), vI id] [] (vI (findI c id)) := by
  refine con_enter Tryz.func64 rfl rfl rfl fun B0 r_ D_ w0 => ?_
  refine T_auto TT_ok rfl ?_
  refine T_loopA (ι := Nat) (fun i => [(5, vI i)]) (fun _ => []) (fun i => i ≤ c.txs.length ∧ ∀ j, j < i → ((c.txs.getD j GTx.z).id == id) = false) (fun i => c.txs.length - i) 0 [] [] rfl rfl ⟨Nat.zero_le _, fun j hj => absurd hj (Nat.not_lt_zero _)⟩ (by repeat (first | exact trivial | refine And.intro ⟨_, rfl, SV.imp_refl _⟩ ?_)) (by repeat (first | exact trivial | refine And.intro ⟨_, rfl, Ch.imp_refl _⟩ ?_)) ?_
  intro i ⟨h1, h2⟩
  refine T_auto TT_ok rfl ?_
  refine T_condD rfl (fun e => ?_) (fun e => ?_)
  · have hi : i < c.txs.length := by omega
    refine T_auto TT_ok rfl ?_
    refine T_cond rfl (fun e2 => ?_) (fun e2 => ?_)
    · refine T_auto TT_ok rfl ?_
      exact T_ansI TT_ok [(4, none)] rfl rfl ((idxI_at (p := fun t : GTx => t.id == id) hi h2 e2).symm)
    · refine T_auto TT_ok rfl ?_
      exact X_inv (i + 1) ⟨hi, before_succ h2 e2⟩ (by omega) (by repeat (first | exact trivial | refine And.intro ⟨_, rfl, SV.imp_refl _⟩ ?_)) (by repeat (first | exact trivial | refine And.intro ⟨_, rfl, Ch.imp_refl _⟩ ?_))
  · refine T_auto TT_ok rfl ?_
    exact T_ansI TT_ok [(4, none)] rfl rfl ((idxI_no (p := fun t : GTx => t.id == id) (z := GTx.z) fun j hj => h2 j (by omega)).symm)
theorem findI_in {c : GCluster} {id : Int} (h : 0 ≤ findI c id) : (findI c id).toNat < c.txs.length ∧ (c.txs.getD (findI c id).toNat GTx.z).id = id := by
  rcases idxI_cases (fun t : GTx => t.id == id) GTx.z c.txs with ⟨h1, h2⟩ | ⟨i, h1, h2, h3, h4⟩
  · rw [findI, h1] at h; omega
  · rw [findI, h2]; exact ⟨by simpa using h1, by simpa using h4⟩
theorem findI_lt {c : GCluster} {id : Int} : findI c id < c.txs.length := by
  rcases idxI_cases (fun t : GTx => t.id == id) GTx.z c.txs with ⟨h1, h2⟩ | ⟨i, h1, h2, h3, h4⟩
  · rw [findI, h1]; omega
  · rw [findI, h2]; omega
theorem tx1_q (t : GTx) (id : Int) : Ans Tryz.prog 189 [] [vR (cTx t), vP [dI id]] [] (vB (t.id == id)) := by
  refine con_enter Tryz.func189 rfl rfl rfl fun B0 r_ D_ w0 => ?_
  refine T_auto TT_ok rfl ?_
  exact T_ansB TT_ok [(3, none)] rfl rfl (rfl)
theorem tx_some_q (c : GCluster) (hl : c.txs.length ≤ 1048576) (id : Int) (h : 0 ≤ findI c id) : Ans Tryz.prog 153 [] [vP (cCluster c), vI id] [] (vP (cTx (c.txs.getD (findI c id).toNat GTx.z))) := by
  have hin := findI_in h
  refine con_enter Tryz.func153 rfl rfl rfl fun B0 r_ D_ w0 => ?_
  refine T_auto TT_ok rfl ?_
  refine RJ_QF TT_ok (indexFuncTx_p c.txs hl (fun _ => True) (fun _ _ => trivial) fun t => t.id == id) rfl rfl (SVs.cons (SV.imp_refl _) (SVs.cons (imp_fb (enters_B (by kernel_rfl)) rfl fun args x ⟨n, _, e1, e2⟩ => by subst e1; subst e2; exact tx1_q n _) rfl)) rfl rfl ?_
  refine T_condD rfl (fun e => absurd h (Int.not_le.2 e)) (fun _ => ?_)
  have hx : 0 ≤ idxI (fun t : GTx => t.id == id) c.txs ∧ idxI (fun t : GTx => t.id == id) c.txs < c.txs.length := ⟨h, findI_lt⟩
  refine T_auto TT_ok rfl ?_
  exact T_ans TT_ok [(4, none)] rfl rfl (rfl)
theorem tx_none_q (c : GCluster) (hl : c.txs.length ≤ 1048576) (id : Int) (h : findI c id < 0) : Ans Tryz.prog 153 [] [vP (cCluster c), vI id] [] (.a (.v (.pointer none))) := by
  refine con_enter Tryz.func153 rfl rfl rfl fun B0 r_ D_ w0 => ?_
  refine T_auto TT_ok rfl ?_
  refine RJ_QF TT_ok (indexFuncTx_p c.txs hl (fun _ => True) (fun _ _ => trivial) fun t => t.id == id) rfl rfl (SVs.cons (SV.imp_refl _) (SVs.cons (imp_fb (enters_B (by kernel_rfl)) rfl fun args x ⟨n, _, e1, e2⟩ => by subst e1; subst e2; exact tx1_q n _) rfl)) rfl rfl ?_
  refine T_condD rfl (fun _ => ?_) (fun e => absurd h e)
  refine T_auto TT_ok rfl ?_
  exact T_ans TT_ok [(4, none)] rfl rfl (rfl)
theorem bdT_any {c : GCluster} (hb : D.bds bigN (cCluster c)) (i : Nat) : D.bds bigN (cTx (c.txs.getD i GTx.z)) := bd_at hb.2.2.2.2.1 ⟨trivial, trivial, trivial, trivial, ⟨Nat.zero_le _, fun i hi => absurd hi (Nat.not_lt_zero _)⟩, ⟨Nat.zero_le _, fun i hi => absurd hi (Nat.not_lt_zero _)⟩, trivial, trivial⟩ _
theorem ClusOk.tx {c : GCluster} (h : ClusOk c) {i : Nat} (hi : i < c.txs.length) : TxOk (c.txs.getD i GTx.z) := by
  have h1 := (h.2.2.2.2 i hi).1
  unfold badTx at h1
  cases c1 : dec (TxOk (c.txs.getD i GTx.z)) with
  | true => exact dec_iff.1 c1
  | false => rw [c1] at h1; cases h1
theorem ClusOk.set {c : GCluster} (h : ClusOk c) {i k : Nat} (hi : i < c.txs.length) (hk : k < (c.txs.getD i GTx.z).sets.length) : 0 ≤ ((c.txs.getD i GTx.z).sets.getD k GSet.z).region ∧ ((c.txs.getD i GTx.z).sets.getD k GSet.z).region < c.places.length := by
  have h1 := ((h.tx hi).2.2 k hk).1
  refine ⟨?_, (h.2.2.2.2 i hi).2.2 k hk⟩
  unfold setB at h1
  cases c1 : inB ((c.txs.getD i GTx.z).sets.getD k GSet.z).region 0 5 with
  | true => exact (inB_iff.1 c1).1
  | false => rw [c1] at h1; cases h1
theorem ClusOk.note {c : GCluster} (h : ClusOk c) {i k : Nat} (hi : i < c.txs.length) (hk : k < (c.txs.getD i GTx.z).reads.length) : 0 ≤ ((c.txs.getD i GTx.z).reads.getD k GNote.z).region ∧ ((c.txs.getD i GTx.z).reads.getD k GNote.z).region < c.places.length := by
  have h1 := ((h.tx hi).2.1 k hk).1
  refine ⟨?_, (h.2.2.2.2 i hi).2.1 k hk⟩
  unfold noteB at h1
  cases c1 : inB ((c.txs.getD i GTx.z).reads.getD k GNote.z).region 0 5 with
  | true => exact (inB_iff.1 c1).1
  | false => rw [c1] at h1; cases h1
theorem setsAt_in {c : GCluster} (h : ClusOk c) {i : Nat} {r0 : Int} (hi : i < c.txs.length) (hn : (setsAt r0 (c.txs.getD i GTx.z).sets).length ≠ 0) : 0 ≤ r0 ∧ r0 < c.places.length := by
  have hp : 0 < (setsAt r0 (c.txs.getD i GTx.z).sets).length := by omega
  have hm := List.getElem_mem hp
  unfold setsAt at hm
  obtain ⟨m1, m2⟩ := List.mem_filter.1 hm
  obtain ⟨k, hk, e⟩ := List.mem_iff_getElem.1 m1
  have h2 := h.set hi hk
  have e2 : ((c.txs.getD i GTx.z).sets.getD k GSet.z).region = r0 := by
    have : (c.txs.getD i GTx.z).sets.getD k GSet.z = (c.txs.getD i GTx.z).sets[k] := by rw [List.getD_eq_getElem?_getD, List.getElem?_eq_getElem hk]; rfl
    rw [this, e]; simpa using m2
  rwa [e2] at h2
open Classical in
noncomputable def voteM (c : GCluster) (id r0 : Int) : Int := if ClusOk c ∧ 0 ≤ findI c id ∧ (setsAt r0 (c.txs.getD (findI c id).toNat GTx.z).sets).length ≠ 0 then voteN c id r0 (c.places.getD r0.toNat GPlace.z).machines.length else 0
/-! ### who is up -/
def upL (c : GCluster) : Nat → List Int
  | 0 => []
  | i + 1 => if (c.machines.getD i GMachine.z).alive = true then upL c i ++ [(i : Int)] else upL c i
theorem upL_le (c : GCluster) : ∀ n, (upL c n).length ≤ n
  | 0 => Nat.le_refl _
  | n + 1 => by
    have := upL_le c n
    unfold upL; split
    · rw [List.length_append, List.length_singleton]; omega
    · omega
open Classical in
noncomputable def upperM (c : GCluster) : List Int := if ClusOk c then upL c c.machines.length else []
theorem upperM_le (c : GCluster) : (upperM c).length ≤ c.machines.length := by
  unfold upperM; split
  · exact upL_le c _
  · exact Nat.zero_le _
/-! ### cells -/
/-- a function that makes a list of cells, and says whether -/
abbrev MkCells (P : Program) (f : Nat) (args : List SV) (xs : List GCell) (b : Bool) : Prop := Con P f [] args [] (fun _ : Unit => True) (fun _ => [.a (.g 900), vB b]) fun _ => [(900, arrC 2 cCell GCell.z xs)]
theorem l3Copy_m (xs : List GCell) (hl : xs.length ≤ 1048576) : MkL Tryz.prog 129 [vL 2 cCell GCell.z xs] 2 cCell GCell.z xs := by
  refine con_enter Tryz.func129 rfl rfl rfl fun B0 r_ D_ w0 => ?_
  refine T_auto TT_ok rfl ?_
  refine RJ_bs TT_ok 3 (fun i => cCell (([] : List GCell).getD i GCell.z)) rfl rfl rfl rfl rfl rfl rfl (fun i hi => absurd hi (Nat.not_lt_zero _)) (mu1 := []) rfl rfl rfl ?_
  refine RJ_auto TT_ok rfl ?_
  refine RJ_appC TT_ok 3 900 rfl rfl rfl rfl rfl rfl rfl rfl rfl rfl rfl rfl ⟨by simp; omega, by unfold maxL; omega⟩ ?_
  refine RJ_auto TT_ok rfl ?_
  refine T_ret TT_ok (()) [(2, none)] rfl rfl ?_ ?_ ?_
  · exact SVs.imp_refl _
  · exact ⟨⟨_, rfl, imp_app (ys := ([] : List GCell)) (by simp)⟩, trivial⟩
  · trivial
theorem l8Primary_c (c : GCluster) (hb : D.bds bigN (cCluster c)) (hok : ClusOk c) (r0 : Int) (hr : 0 ≤ r0 ∧ r0 < c.places.length) : Con Tryz.prog 48 [] [vR (cCluster c), vI r0] [] (fun _ : Unit => True) (fun _ => if (machAt c r0.toNat 0).alive = true then [vI (mAt c r0.toNat 0), vI (idxI (atB r0) (machAt c r0.toNat 0).copies)] else [vI (-1), vI (-1)]) fun _ => [] := by
  have hpl := hok.pl (r := r0.toNat) (by omega)
  have hm := (hok.at (r := r0.toNat) (k := 0) (by omega) (by omega)).1
  have bm := bdM_any hb (mAt c r0.toNat 0).toNat
  refine con_enter Tryz.func48 rfl rfl rfl fun B0 r_ D_ w0 => ?_
  refine T_auto TT_ok rfl ?_
  refine T_condX rfl (fun e => ?_) (fun e => ?_)
  · rw [if_neg (by rw [show (machAt c r0.toNat 0).alive = false from e]; simp)]
    refine T_auto TT_ok rfl ?_
    refine T_ret TT_ok (()) [(4, none), (5, none)] rfl rfl ?_ ?_ ?_
    · exact SVs.imp_refl _
    · trivial
    · trivial
  · rw [if_pos (show (machAt c r0.toNat 0).alive = true from e)]
    refine T_auto TT_ok rfl ?_
    refine RJ_Q TT_ok (l6At_q (machAt c r0.toNat 0) bm.2.1.1 r0) rfl rfl rfl rfl rfl ?_
    refine T_ret TT_ok (()) [(4, none), (5, none)] rfl rfl ?_ ?_ ?_
    · exact SVs.imp_refl _
    · trivial
    · trivial
end Go.Proofs.YtpfcfepbhdkpdaaGreat
