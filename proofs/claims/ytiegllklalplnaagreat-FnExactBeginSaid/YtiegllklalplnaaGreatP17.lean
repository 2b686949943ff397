
/-
  Machines are killed; on both sides.
-/
import Derived.Test.YtiegllklalplnaaGreatP16
namespace Go.Proofs.YtiegllklalplnaaGreat
open Go Go.RowKit
set_option linter.unusedVariables false
set_option linter.unusedSimpArgs false
set_option maxRecDepth 4000

abbrev MkCB (P : Program) (f : Nat) (args : List SV) (c : GCluster) (b : Bool) : Prop := Con P f [] args [] (fun _ : Unit => True) (fun _ => [agClusterG c 901 902 903, vB b]) fun _ => [(901, arrC 1 cPlace GPlace.z c.places), (902, arrC 4 cMachine GMachine.z c.machines), (903, arrC 7 cTx GTx.z c.txs)]
abbrev MkCI (P : Program) (f : Nat) (args : List SV) (c : GCluster) (n : Int) : Prop := Con P f [] args [] (fun _ : Unit => True) (fun _ => [agClusterG c 901 902 903, vI n]) fun _ => [(901, arrC 1 cPlace GPlace.z c.places), (902, arrC 4 cMachine GMachine.z c.machines), (903, arrC 7 cTx GTx.z c.txs)]
/-- a cluster's row, its parts under these keys -/
abbrev rowC (c : GCluster) (k1 k2 k3 : Nat) : List V := [.v (.int .i64 c.config), .v (.int .i64 c.clock), .g k1, .g k2, .g k3, .v (.bool c.lost)]
theorem imp_set {α : Type} {sz k : Nat} {enc : α → List D} {z y : α} {xs : List α} {l : List D} (hl : OwnI l (enc y)) : (Ch.arr sz xs.length fun j => bif Nat.beq j k then l else enc (xs.getD j z)).imp (arrC sz enc z (xs.set k y)) :=
  Ch.imp_own (by simp) fun j hj => by
    by_cases c : j = k
    · subst c
      rw [Nat.beq_refl]
      have : (xs.set j y).getD j z = y := by simp [hj]
      rw [this]; exact hl
    · have h1 : Nat.beq j k = false := by
        cases e : Nat.beq j k with
        | false => rfl
        | true => exact absurd (Nat.eq_of_beq_eq_true e) c
      have h2 : (xs.set k y).getD j z = xs.getD j z := by simp [List.getElem?_set_ne (Ne.symm c)]
      rw [h1, h2]; exact OwnI.refl _
theorem own_zMach : OwnI [.v (.bool false), .v (.slice none 0 0), .v (.slice none 0 0), .v (.slice none 0 0)] (cMachine GMachine.z) := OwnI.c (OwnI.n (OwnI.n (OwnI.n OwnI.e)))
def killB (ms : List GMachine) (m0 : Int) : Bool := bif inB m0 0 ((ms.length : Int) - 1) then (ms.getD m0.toNat GMachine.z).alive else false
def killL (ms : List GMachine) (m0 : Int) : List GMachine := if killB ms m0 = true then ms.set m0.toNat GMachine.z else ms
open Classical in
noncomputable def killM (c : GCluster) (m0 : Int) : GCluster × Bool := if ClusOk c then ({ c with machines := killL c.machines m0 }, killB c.machines m0) else (GCluster.z, false)
theorem killB_in {ms : List GMachine} {m0 : Int} (h : killB ms m0 = true) : 0 ≤ m0 ∧ m0 < ms.length := by
  unfold killB at h
  cases c : inB m0 0 ((ms.length : Int) - 1) with
  | false => rw [c] at h; cases h
  | true => have := inB_iff.1 c; omega
theorem killB_not {ms : List GMachine} {m0 : Int} : (bif !inB m0 0 ((ms.length : Int) - 1) then true else !(ms.getD m0.toNat GMachine.z).alive) = !killB ms m0 := by
  unfold killB
  cases inB m0 0 ((ms.length : Int) - 1) <;> rfl
theorem guard_in {n : Nat} {m0 : Int} (k : (!inB m0 0 ((n : Int) - 1)) = false) : 0 ≤ m0 ∧ m0 < n := by
  have := inB_iff.1 (show inB m0 0 ((n : Int) - 1) = true from by simpa using k)
  omega
theorem spec_Kill_m (c : GCluster) (hb : D.bds bigN (cCluster c)) (m0 : Int) (hC : MkClus Tryz.prog 91 [vR (cCluster c)] c) : MkCB Tryz.prog 39 [vR (cCluster c), vI m0] (killM c m0).1 (killM c m0).2 := by
  have b2 : c.machines.length ≤ 1048576 := hb.2.2.2.1.1
  refine con_enter Tryz.func39 rfl rfl rfl fun B0 r_ D_ w0 => ?_
  refine T_auto1 TT_ok rfl ?_
  refine T_freeze 2 rfl rfl rfl rfl (fun _ => rfl) (fun _ => rfl) fun r_ => ?_
  refine T_auto TT_ok rfl ?_
  refine RJ_Q TT_ok (spec_ClusterOk_q c hb) rfl rfl rfl rfl rfl ?_
  refine T_condX rfl (fun e => ?_) (fun e => ?_)
  · rw [show killM c m0 = (GCluster.z, false) from if_neg (dec_not.1 e)]
    refine T_auto TT_ok rfl ?_
    refine T_view (V_nilR 4 2 1 (fun i => cPlace (([] : List GPlace).getD i GPlace.z)) rfl rfl rfl) ?_
    refine T_view (V_nilR 4 3 4 (fun i => cMachine (([] : List GMachine).getD i GMachine.z)) rfl rfl rfl) ?_
    refine T_view (V_nilR 4 4 7 (fun i => cTx (([] : List GTx).getD i GTx.z)) rfl rfl rfl) ?_
    refine T_view (V_open 4 2 901 rfl rfl rfl rfl rfl rfl) ?_
    refine T_view (V_open 4 3 902 rfl rfl rfl rfl rfl rfl) ?_
    refine T_view (V_open 4 4 903 rfl rfl rfl rfl rfl rfl) ?_
    refine T_ret TT_ok (()) [(4, some 33), (5, none)] rfl rfl ?_ ?_ ?_
    · exact SVs.imp_refl _
    · exact ⟨⟨_, rfl, Ch.imp_refl _⟩, ⟨_, rfl, Ch.imp_refl _⟩, ⟨_, rfl, Ch.imp_refl _⟩, trivial⟩
    · trivial
  rw [show killM c m0 = ({ c with machines := killL c.machines m0 }, killB c.machines m0) from if_pos (dec_iff.1 e)]
  refine T_auto TT_ok rfl ?_
  refine RJ_C TT_ok (Con.sw 901 6001 (Con.sw 902 6002 (Con.sw 903 6003 hC))) rfl rfl (SVs.imp_refl _) (fun _ => rfl) rfl rfl rfl fun _ _ => ?_
  refine RJ_auto TT_ok rfl ?_
  refine RJ_QO TT_ok (spec_l1In_q _ _ _) rfl rfl (SVs.imp_refl _) rfl rfl ?_ ?_
  · exact ⟨guard_in, trivial⟩
  rw [killB_not]
  refine T_condX rfl (fun e1 => ?_) (fun e1 => ?_)
  · rw [show killL c.machines m0 = c.machines from if_neg (by rw [e1]; simp), e1]
    refine T_auto TT_ok rfl ?_
    refine T_view (V_sw 6001 901) ?_
    refine T_view (V_sw 6002 902) ?_
    refine T_view (V_sw 6003 903) ?_
    refine T_ret TT_ok (()) [(4, some 33), (5, none)] rfl rfl ?_ ?_ ?_
    · exact SVs.imp_refl _
    · exact ⟨⟨_, rfl, Ch.imp_refl _⟩, ⟨_, rfl, Ch.imp_refl _⟩, ⟨_, rfl, Ch.imp_refl _⟩, trivial⟩
    · trivial
  · have hin := killB_in e1
    rw [show killL c.machines m0 = c.machines.set m0.toNat GMachine.z from if_pos e1, e1]
    refine T_auto TT_ok rfl ?_
    refine T_view (V_sw 6001 901) ?_
    refine T_view (V_sw 6002 902) ?_
    refine T_view (V_sw 6003 903) ?_
    refine T_ret TT_ok (()) [(4, some 33), (5, none)] rfl rfl ?_ ?_ ?_
    · exact SVs.imp_refl _
    · exact ⟨⟨_, rfl, Ch.imp_refl _⟩, ⟨_, rfl, imp_set own_zMach⟩, ⟨_, rfl, Ch.imp_refl _⟩, trivial⟩
    · trivial
theorem kill_c (c : GCluster) (b2 : c.machines.length ≤ 1048576) (m0 : Int) : Con Tryz.prog 93 [900, 902] [.a (.p 900 0), vI m0] [(900, .rrow (rowC c 901 902 903)), (902, arrC 4 cMachine GMachine.z c.machines)] (fun _ : Unit => True) (fun _ => [vB (killB c.machines m0)]) fun _ => [(902, arrC 4 cMachine GMachine.z (killL c.machines m0))] := by
  refine con_enter Tryz.func93 rfl rfl rfl fun B0 r_ D_ w0 => ?_
  refine T_auto TT_ok rfl ?_
  refine RJ_Q TT_ok (sizeMachine_q _) rfl rfl rfl rfl rfl ?_
  refine RJ_QO TT_ok (impl_within_q _ _ _) rfl rfl (SVs.imp_refl _) rfl rfl ?_ ?_
  · exact ⟨guard_in, guard_in, trivial⟩
  rw [killB_not]
  refine T_condX rfl (fun e1 => ?_) (fun e1 => ?_)
  · rw [show killL c.machines m0 = c.machines from if_neg (by rw [e1]; simp), e1]
    refine T_auto TT_ok rfl ?_
    refine T_ret TT_ok (()) [(4, none)] rfl rfl ?_ ?_ ?_
    · exact SVs.imp_refl _
    · exact ⟨⟨_, rfl, Ch.imp_refl _⟩, trivial⟩
    · trivial
  · have hin := killB_in e1
    rw [show killL c.machines m0 = c.machines.set m0.toNat GMachine.z from if_pos e1, e1]
    refine T_auto TT_ok rfl ?_
    refine T_ret TT_ok (()) [(4, none)] rfl rfl ?_ ?_ ?_
    · exact SVs.imp_refl _
    · exact ⟨⟨_, rfl, imp_set own_zMach⟩, trivial⟩
    · trivial
theorem impl_Kill_m (c : GCluster) (hb : D.bds bigN (cCluster c)) (m0 : Int) (hC : MkClus Tryz.prog 92 [vR (cCluster c)] c) : MkCB Tryz.prog 40 [vR (cCluster c), vI m0] (killM c m0).1 (killM c m0).2 := by
  have b2 : c.machines.length ≤ 1048576 := hb.2.2.2.1.1
  refine con_enter Tryz.func40 rfl rfl rfl fun B0 r_ D_ w0 => ?_
  refine T_auto1 TT_ok rfl ?_
  refine T_freeze 2 rfl rfl rfl rfl (fun _ => rfl) (fun _ => rfl) fun r_ => ?_
  refine T_auto TT_ok rfl ?_
  refine RJ_Q TT_ok (impl_isCluster_q c hb) rfl rfl rfl rfl rfl ?_
  refine T_condX rfl (fun e => ?_) (fun e => ?_)
  · rw [show killM c m0 = (GCluster.z, false) from if_neg (dec_not.1 e)]
    refine T_auto TT_ok rfl ?_
    refine T_view (V_nilR 4 2 1 (fun i => cPlace (([] : List GPlace).getD i GPlace.z)) rfl rfl rfl) ?_
    refine T_view (V_nilR 4 3 4 (fun i => cMachine (([] : List GMachine).getD i GMachine.z)) rfl rfl rfl) ?_
    refine T_view (V_nilR 4 4 7 (fun i => cTx (([] : List GTx).getD i GTx.z)) rfl rfl rfl) ?_
    refine T_view (V_open 4 2 901 rfl rfl rfl rfl rfl rfl) ?_
    refine T_view (V_open 4 3 902 rfl rfl rfl rfl rfl rfl) ?_
    refine T_view (V_open 4 4 903 rfl rfl rfl rfl rfl rfl) ?_
    refine T_ret TT_ok (()) [(4, some 33), (5, none)] rfl rfl ?_ ?_ ?_
    · exact SVs.imp_refl _
    · exact ⟨⟨_, rfl, Ch.imp_refl _⟩, ⟨_, rfl, Ch.imp_refl _⟩, ⟨_, rfl, Ch.imp_refl _⟩, trivial⟩
    · trivial
  rw [show killM c m0 = ({ c with machines := killL c.machines m0 }, killB c.machines m0) from if_pos (dec_iff.1 e)]
  refine T_auto TT_ok rfl ?_
  refine RJ_C TT_ok (Con.sw 901 6001 (Con.sw 902 6002 (Con.sw 903 6003 hC))) rfl rfl (SVs.imp_refl _) (fun _ => rfl) rfl rfl rfl fun _ _ => ?_
  refine RJ_auto TT_ok rfl ?_
  refine T_drawL TT_ok [6002, 4] [0, 1, 2, 3, 4] rfl rfl fun B0 H0 => ?_
  refine DJ_C 2 (Con.sw 901 6001 (Con.sw 903 6003 (Con.sw 900 6 (Con.sw 902 6002 (kill_c c b2 m0))))) rfl rfl rfl (SVs.imp_refl _) (fun _ => rfl) rfl rfl rfl fun _ _ => ?_
  refine DJ_one 3 rfl (by kernel_rfl) (OJ_M TT_ok rfl rfl rfl rfl rfl rfl (SJ_dj ?_))
  refine DJ_onL TT_ok [4] rfl ?_
  refine DJ_endA TT_ok rfl ?_
  refine T_view (V_sw 6001 901) ?_
  refine T_view (V_sw 6002 902) ?_
  refine T_view (V_sw 6003 903) ?_
  refine T_ret TT_ok (()) [(4, some 33), (5, none)] rfl rfl ?_ ?_ ?_
  · exact SVs.imp_refl _
  · exact ⟨⟨_, rfl, Ch.imp_refl _⟩, ⟨_, rfl, Ch.imp_refl _⟩, ⟨_, rfl, Ch.imp_refl _⟩, trivial⟩
  · trivial
end Go.Proofs.YtiegllklalplnaaGreat
