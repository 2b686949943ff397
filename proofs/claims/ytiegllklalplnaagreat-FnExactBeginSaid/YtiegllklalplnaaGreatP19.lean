
/-
  Find and Begin; on both sides.
-/
import Derived.Test.YtiegllklalplnaaGreatP17
import Derived.Test.YtiegllklalplnaaGreatP18
namespace Go.Proofs.YtiegllklalplnaaGreat
open Go Go.RowKit
set_option linter.unusedVariables false
set_option linter.unusedSimpArgs false
set_option maxRecDepth 4000

abbrev MkTB (P : Program) (f : Nat) (args : List SV) (t : GTx) (b : Bool) : Prop := Con P f [] args [] (fun _ : Unit => True) (fun _ => [agTxG t 901 902, vB b]) fun _ => [(901, arrC 5 cNote GNote.z t.reads), (902, arrC 5 cSet GSet.z t.sets)]
open Classical in
noncomputable def findM (c : GCluster) (id : Int) : GTx × Bool := if ClusOk c ∧ 0 ≤ findI c id then (c.txs.getD (findI c id).toNat GTx.z, true) else (GTx.z, false)
theorem spec_Find_m (c : GCluster) (hb : D.bds bigN (cCluster c)) (id : Int) : MkTB Tryz.prog 34 [vR (cCluster c), vI id] (findM c id).1 (findM c id).2 := by
  have b3 : c.txs.length ≤ 1048576 := hb.2.2.2.2.1.1
  have bt := bdT_any hb (findI c id).toNat
  have hlt := findI_lt (c := c) (id := id)
  refine con_enter Tryz.func34 rfl rfl rfl fun B0 r_ D_ w0 => ?_
  refine T_auto1 TT_ok rfl ?_
  refine T_freeze 2 rfl rfl rfl rfl (fun _ => rfl) (fun _ => rfl) fun r_ => ?_
  refine T_auto TT_ok rfl ?_
  refine RJ_Q TT_ok (l8Find_q c b3 id) rfl rfl rfl rfl rfl ?_
  by_cases hg : ClusOk c ∧ 0 ≤ findI c id
  · have e0 : (bif !dec (ClusOk c) then true else decide (findI c id < 0)) = false := by rw [dec_true hg.1, decide_eq_false (by omega)]; rfl
    have hin := findI_in hg.2
    rw [show findM c id = (c.txs.getD (findI c id).toNat GTx.z, true) from if_pos hg]
    refine RJ_Q TT_ok (spec_ClusterOk_q c hb) rfl rfl rfl rfl rfl ?_
    rw [e0]
    refine T_cond rfl (fun e => by cases e) (fun e => ?_)
    refine T_auto TT_ok rfl ?_
    refine RJ_C TT_ok (l7Copy_m (c.txs.getD (findI c id).toNat GTx.z) bt.2.2.2.2.1.1 bt.2.2.2.2.2.1.1) rfl rfl (SVs.imp_refl _) (fun _ => rfl) rfl rfl rfl fun _ _ => ?_
    refine RJ_auto TT_ok rfl ?_
    refine T_ret TT_ok (()) [(4, some 54), (5, none)] rfl rfl ?_ ?_ ?_
    · exact SVs.imp_refl _
    · exact ⟨⟨_, rfl, Ch.imp_refl _⟩, ⟨_, rfl, Ch.imp_refl _⟩, trivial⟩
    · trivial
  · have e0 : (bif !dec (ClusOk c) then true else decide (findI c id < 0)) = true := by
      by_cases h1 : ClusOk c
      · rw [dec_true h1, decide_eq_true (Int.not_le.1 fun h => hg ⟨h1, h⟩)]; rfl
      · rw [dec_false h1]; rfl
    rw [show findM c id = (GTx.z, false) from if_neg hg]
    refine RJ_Q TT_ok (spec_ClusterOk_q c hb) rfl rfl rfl rfl rfl ?_
    rw [e0]
    refine T_cond rfl (fun e => ?_) (fun e => by cases e)
    refine T_auto TT_ok rfl ?_
    refine T_view (V_nilR 4 4 5 (fun i => cNote (([] : List GNote).getD i GNote.z)) rfl rfl rfl) ?_
    refine T_view (V_nilR 4 5 5 (fun i => cSet (([] : List GSet).getD i GSet.z)) rfl rfl rfl) ?_
    refine T_view (V_open 4 4 901 rfl rfl rfl rfl rfl rfl) ?_
    refine T_view (V_open 4 5 902 rfl rfl rfl rfl rfl rfl) ?_
    refine T_ret TT_ok (()) [(4, some 54), (5, none)] rfl rfl ?_ ?_ ?_
    · exact SVs.imp_refl _
    · exact ⟨⟨_, rfl, Ch.imp_refl _⟩, ⟨_, rfl, Ch.imp_refl _⟩, trivial⟩
    · trivial
theorem impl_Find_m (c : GCluster) (hb : D.bds bigN (cCluster c)) (id : Int) : MkTB Tryz.prog 35 [vR (cCluster c), vI id] (findM c id).1 (findM c id).2 := by
  have b3 : c.txs.length ≤ 1048576 := hb.2.2.2.2.1.1
  have bt := bdT_any hb (findI c id).toNat
  have hlt := findI_lt (c := c) (id := id)
  refine con_enter Tryz.func35 rfl rfl rfl fun B0 r_ D_ w0 => ?_
  refine T_auto1 TT_ok rfl ?_
  refine T_freeze 2 rfl rfl rfl rfl (fun _ => rfl) (fun _ => rfl) fun r_ => ?_
  refine T_auto TT_ok rfl ?_
  refine RJ_Q TT_ok (impl_isCluster_q c hb) rfl rfl rfl rfl rfl ?_
  refine T_condX rfl (fun e => ?_) (fun e => ?_)
  · rw [show findM c id = (GTx.z, false) from if_neg fun h => dec_not.1 e h.1]
    refine T_auto TT_ok rfl ?_
    refine T_view (V_nilR 4 4 5 (fun i => cNote (([] : List GNote).getD i GNote.z)) rfl rfl rfl) ?_
    refine T_view (V_nilR 4 5 5 (fun i => cSet (([] : List GSet).getD i GSet.z)) rfl rfl rfl) ?_
    refine T_view (V_open 4 4 901 rfl rfl rfl rfl rfl rfl) ?_
    refine T_view (V_open 4 5 902 rfl rfl rfl rfl rfl rfl) ?_
    refine T_ret TT_ok (()) [(4, some 54), (5, none)] rfl rfl ?_ ?_ ?_
    · exact SVs.imp_refl _
    · exact ⟨⟨_, rfl, Ch.imp_refl _⟩, ⟨_, rfl, Ch.imp_refl _⟩, trivial⟩
    · trivial
  have hok := dec_iff.1 e
  refine T_auto TT_ok rfl ?_
  by_cases hf : 0 ≤ findI c id
  · have hin := findI_in hf
    rw [show findM c id = (c.txs.getD (findI c id).toNat GTx.z, true) from if_pos ⟨hok, hf⟩]
    refine RJ_QR TT_ok (tx_some_q c b3 id hf) rfl rfl (SVs.imp_refl _) rfl rfl ?_
    refine T_cond rfl (fun e => by cases e) (fun e => ?_)
    refine T_auto TT_ok rfl ?_
    refine RJ_C TT_ok (cloneTx_m (c.txs.getD (findI c id).toNat GTx.z) bt.2.2.2.2.1.1 bt.2.2.2.2.2.1.1) rfl rfl (SVs.imp_refl _) (fun _ => rfl) rfl rfl rfl fun _ _ => ?_
    refine RJ_auto TT_ok rfl ?_
    refine T_ret TT_ok (()) [(4, some 54), (5, none)] rfl rfl ?_ ?_ ?_
    · exact SVs.imp_refl _
    · exact ⟨⟨_, rfl, Ch.imp_refl _⟩, ⟨_, rfl, Ch.imp_refl _⟩, trivial⟩
    · trivial
  · rw [show findM c id = (GTx.z, false) from if_neg fun h => hf h.2]
    refine RJ_QR TT_ok (tx_none_q c b3 id (by omega)) rfl rfl (SVs.imp_refl _) rfl rfl ?_
    refine T_cond rfl (fun e => ?_) (fun e => by cases e)
    refine T_auto TT_ok rfl ?_
    refine T_view (V_nilR 4 4 5 (fun i => cNote (([] : List GNote).getD i GNote.z)) rfl rfl rfl) ?_
    refine T_view (V_nilR 4 5 5 (fun i => cSet (([] : List GSet).getD i GSet.z)) rfl rfl rfl) ?_
    refine T_view (V_open 4 4 901 rfl rfl rfl rfl rfl rfl) ?_
    refine T_view (V_open 4 5 902 rfl rfl rfl rfl rfl rfl) ?_
    refine T_ret TT_ok (()) [(4, some 54), (5, none)] rfl rfl ?_ ?_ ?_
    · exact SVs.imp_refl _
    · exact ⟨⟨_, rfl, Ch.imp_refl _⟩, ⟨_, rfl, Ch.imp_refl _⟩, trivial⟩
    · trivial
/-! ### Begin -/
theorem l9No1_m (c : GCluster) : MkCI Tryz.prog 97 [vR (cCluster c), vI 1] GCluster.z 1 := by
  refine con_enter Tryz.func97 rfl rfl rfl fun B0 r_ D_ w0 => ?_
  refine T_auto1 TT_ok rfl ?_
  refine T_freeze 2 rfl rfl rfl rfl (fun _ => rfl) (fun _ => rfl) fun r_ => ?_
  refine T_auto TT_ok rfl ?_
  refine T_cond rfl (fun e => ?_) (fun e => by cases e)
  refine T_auto TT_ok rfl ?_
  refine T_view (V_nilR 4 2 1 (fun i => cPlace (([] : List GPlace).getD i GPlace.z)) rfl rfl rfl) ?_
  refine T_view (V_nilR 4 3 4 (fun i => cMachine (([] : List GMachine).getD i GMachine.z)) rfl rfl rfl) ?_
  refine T_view (V_nilR 4 4 7 (fun i => cTx (([] : List GTx).getD i GTx.z)) rfl rfl rfl) ?_
  refine T_view (V_open 4 2 901 rfl rfl rfl rfl rfl rfl) ?_
  refine T_view (V_open 4 3 902 rfl rfl rfl rfl rfl rfl) ?_
  refine T_view (V_open 4 4 903 rfl rfl rfl rfl rfl rfl) ?_
  refine T_ret TT_ok (()) [(4, some 33), (5, none)] rfl rfl ?_ ?_ ?_
  · exact SVs.imp_refl _
  · exact ⟨⟨_, rfl, Ch.imp_refl _⟩, ⟨_, rfl, Ch.imp_refl _⟩, ⟨_, rfl, Ch.imp_refl _⟩, trivial⟩
  · trivial
theorem l9No_m (c : GCluster) (hb : D.bds bigN (cCluster c)) (n : Int) (h : n ≠ 1) : MkCI Tryz.prog 97 [vR (cCluster c), vI n] c n := by
  refine con_enter Tryz.func97 rfl rfl rfl fun B0 r_ D_ w0 => ?_
  refine T_auto1 TT_ok rfl ?_
  refine T_freeze 2 rfl rfl rfl rfl (fun _ => rfl) (fun _ => rfl) fun r_ => ?_
  refine T_auto TT_ok rfl ?_
  refine T_condD rfl (fun e => absurd e h) (fun e => ?_)
  refine T_auto TT_ok rfl ?_
  refine RJ_C TT_ok (l8Copy_m c hb) rfl rfl (SVs.imp_refl _) (fun _ => rfl) rfl rfl rfl fun _ _ => ?_
  refine RJ_auto TT_ok rfl ?_
  refine T_ret TT_ok (()) [(4, some 33), (5, none)] rfl rfl ?_ ?_ ?_
  · exact SVs.imp_refl _
  · exact ⟨⟨_, rfl, Ch.imp_refl _⟩, ⟨_, rfl, Ch.imp_refl _⟩, ⟨_, rfl, Ch.imp_refl _⟩, trivial⟩
  · trivial
/-- a transaction that has just begun, nothing in it -/
abbrev agNew (id home : Int) : List V := [.v (.int .i64 id), .v (.int .i64 home), .v (.int .i64 1), .v (.int .i64 0), nilV, nilV, .v (.int .i64 0)]
abbrev dNew (id home : Int) : List D := [dI id, dI home, dI 1, dI 0, .v (.slice none 0 0), .v (.slice none 0 0), dI 0]
def newT (id home : Int) : GTx := ⟨id, home, 1, 0, [], [], 0⟩
theorem own_newT (id home : Int) : OwnI (dNew id home) (cTx (newT id home)) := OwnI.c (OwnI.c (OwnI.c (OwnI.c (OwnI.n (OwnI.n (OwnI.c OwnI.e))))))
theorem spec_NewTx_n (id home : Int) (h1 : inB id 1 1000000 = true) (h2 : inB home 0 7 = true) : Con Tryz.prog 98 [] [vI id, vI home] [] (fun _ : Unit => True) (fun _ => [.ag (agNew id home), vB true]) fun _ => [] := by
  refine con_enter Tryz.func98 rfl rfl rfl fun B0 r_ D_ w0 => ?_
  refine T_auto TT_ok rfl ?_
  refine RJ_Q TT_ok (spec_l1Id_q _) rfl rfl rfl rfl rfl ?_
  refine RJ_Q TT_ok (spec_l1Machine_q _) rfl rfl rfl rfl rfl ?_
  rw [h1, h2]
  refine T_cond rfl (fun e => by cases e) (fun e => ?_)
  refine T_auto TT_ok rfl ?_
  refine T_ret TT_ok (()) [(4, some 54), (5, none)] rfl rfl ?_ ?_ ?_
  · exact SVs.imp_refl _
  · exact trivial
  · trivial
/-- its name does not fit -/
def begB2 (c : GCluster) (id : Int) : Bool := bif (bif !inB id 1 1000000 then true else decide ((c.txs.length : Int) = 60)) then true else bif decide ((c.txs.length : Int) > 0) then decide ((c.txs.getD ((c.txs.length : Int) - 1).toNat GTx.z).id ≥ id) else false
/-- its home is down -/
def begB3 (c : GCluster) (home : Int) : Bool := bif !inB home 0 ((c.machines.length : Int) - 1) then true else !(c.machines.getD home.toNat GMachine.z).alive
open Classical in
noncomputable def beginM (c : GCluster) (id home : Int) : GCluster × Int := if ClusOk c then (bif begB2 c id then (c, 2) else bif begB3 c home then (c, 3) else ({ c with txs := c.txs ++ [newT id home] }, 0)) else (GCluster.z, 1)
theorem spec_Begin_m (c : GCluster) (hb : D.bds bigN (cCluster c)) (id home : Int) : MkCI Tryz.prog 42 [vR (cCluster c), vI id, vI home] (beginM c id home).1 (beginM c id home).2 := by
  have b2 : c.machines.length ≤ 1048576 := hb.2.2.2.1.1
  have b3 : c.txs.length ≤ 1048576 := hb.2.2.2.2.1.1
  refine con_enter Tryz.func42 rfl rfl rfl fun B0 r_ D_ w0 => ?_
  refine T_auto1 TT_ok rfl ?_
  refine T_freeze 3 rfl rfl rfl rfl (fun _ => rfl) (fun _ => rfl) fun r_ => ?_
  refine T_auto TT_ok rfl ?_
  refine RJ_Q TT_ok (spec_ClusterOk_q c hb) rfl rfl rfl rfl rfl ?_
  refine T_condX rfl (fun e => ?_) (fun e => ?_)
  · rw [show beginM c id home = (GCluster.z, 1) from if_neg (dec_not.1 e)]
    refine T_auto TT_ok rfl ?_
    refine RJ_C TT_ok (l9No1_m c) rfl rfl (SVs.imp_refl _) (fun _ => rfl) rfl rfl rfl fun _ _ => ?_
    refine RJ_auto TT_ok rfl ?_
    refine T_ret TT_ok (()) [(6, some 33), (7, none)] rfl rfl ?_ ?_ ?_
    · exact SVs.imp_refl _
    · exact ⟨⟨_, rfl, Ch.imp_refl _⟩, ⟨_, rfl, Ch.imp_refl _⟩, ⟨_, rfl, Ch.imp_refl _⟩, trivial⟩
    · trivial
  have hok := dec_iff.1 e
  rw [show beginM c id home = (bif begB2 c id then (c, 2) else bif begB3 c home then (c, 3) else ({ c with txs := c.txs ++ [newT id home] }, 0)) from if_pos hok]
  refine T_auto TT_ok rfl ?_
  refine RJ_Q TT_ok (spec_l1Id_q _) rfl rfl rfl rfl rfl ?_
  refine T_cond (b := begB2 c id) rfl (fun e => ?_) (fun e2 => ?_)
  · rw [e]
    refine T_auto TT_ok rfl ?_
    refine RJ_C TT_ok (l9No_m c hb 2 (by decide)) rfl rfl (SVs.imp_refl _) (fun _ => rfl) rfl rfl rfl fun _ _ => ?_
    refine RJ_auto TT_ok rfl ?_
    refine T_ret TT_ok (()) [(6, some 33), (7, none)] rfl rfl ?_ ?_ ?_
    · exact SVs.imp_refl _
    · exact ⟨⟨_, rfl, Ch.imp_refl _⟩, ⟨_, rfl, Ch.imp_refl _⟩, ⟨_, rfl, Ch.imp_refl _⟩, trivial⟩
    · trivial
  rw [e2]
  refine T_auto TT_ok rfl ?_
  refine RJ_QO TT_ok (spec_l1In_q _ _ _) rfl rfl (SVs.imp_refl _) rfl rfl ?_ ?_
  · exact ⟨guard_in, trivial⟩
  refine T_cond (b := begB3 c home) rfl (fun e => ?_) (fun e3 => ?_)
  · rw [e]
    refine T_auto TT_ok rfl ?_
    refine RJ_C TT_ok (l9No_m c hb 3 (by decide)) rfl rfl (SVs.imp_refl _) (fun _ => rfl) rfl rfl rfl fun _ _ => ?_
    refine RJ_auto TT_ok rfl ?_
    refine T_ret TT_ok (()) [(6, some 33), (7, none)] rfl rfl ?_ ?_ ?_
    · exact SVs.imp_refl _
    · exact ⟨⟨_, rfl, Ch.imp_refl _⟩, ⟨_, rfl, Ch.imp_refl _⟩, ⟨_, rfl, Ch.imp_refl _⟩, trivial⟩
    · trivial
  rw [e3]
  have h1 : inB id 1 1000000 = true := by
    unfold begB2 at e2
    cases h : inB id 1 1000000 with
    | true => rfl
    | false => rw [h] at e2; cases e2
  have h2 : inB home 0 7 = true := by
    unfold begB3 at e3
    cases h : inB home 0 ((c.machines.length : Int) - 1) with
    | true => have := inB_iff.1 h; have := hok.1.2.2.1.2; exact inB_iff.2 (by omega)
    | false => rw [h] at e3; cases e3
  have h3 : c.txs.length ≤ 60 := hok.1.2.2.2
  refine T_auto TT_ok rfl ?_
  refine RJ_C TT_ok (Con.sw 901 6001 (Con.sw 902 6002 (Con.sw 903 6003 (l8Copy_m c hb)))) rfl rfl (SVs.imp_refl _) (fun _ => rfl) rfl rfl rfl fun _ _ => ?_
  refine RJ_auto TT_ok rfl ?_
  refine RJ_C TT_ok (spec_NewTx_n id home h1 h2) rfl rfl (SVs.imp_refl _) (fun _ => rfl) rfl rfl rfl fun _ _ => ?_
  refine RJ_auto TT_ok rfl ?_
  refine RJ_bs TT_ok 84 (fun _ => dNew id home) rfl rfl rfl rfl rfl rfl rfl (fun i hi => by rcases i with _ | i <;> first | rfl | omega) (mu1 := []) rfl rfl rfl ?_
  refine RJ_auto TT_ok rfl ?_
  refine RJ_appM TT_ok 6003 84 85 rfl rfl rfl rfl rfl rfl rfl rfl rfl rfl rfl rfl ⟨by show (c.txs.length + 1) * 88 ≤ _; omega, by unfold maxL; omega⟩ ?_
  refine RJ_auto TT_ok rfl ?_
  refine T_view (V_sw 6001 901) ?_
  refine T_view (V_sw 6002 902) ?_
  refine T_view (V_sw 85 903) ?_
  refine T_ret TT_ok (()) [(6, some 33), (7, none)] rfl rfl ?_ ?_ ?_
  · exact SVs.imp_refl _
  · exact ⟨⟨_, rfl, Ch.imp_refl _⟩, ⟨_, rfl, Ch.imp_refl _⟩, ⟨_, rfl, imp_app1' rfl (own_newT id home)⟩, trivial⟩
  · trivial
theorem impl_Begin_m (c : GCluster) (hb : D.bds bigN (cCluster c)) (id home : Int) : MkCI Tryz.prog 43 [vR (cCluster c), vI id, vI home] (beginM c id home).1 (beginM c id home).2 := by
  have b2 : c.machines.length ≤ 1048576 := hb.2.2.2.1.1
  have b3 : c.txs.length ≤ 1048576 := hb.2.2.2.2.1.1
  refine con_enter Tryz.func43 rfl rfl rfl fun B0 r_ D_ w0 => ?_
  refine T_auto1 TT_ok rfl ?_
  refine T_freeze 3 rfl rfl rfl rfl (fun _ => rfl) (fun _ => rfl) fun r_ => ?_
  refine T_auto TT_ok rfl ?_
  refine RJ_Q TT_ok (impl_isCluster_q c hb) rfl rfl rfl rfl rfl ?_
  refine T_condX rfl (fun e => ?_) (fun e => ?_)
  · rw [show beginM c id home = (GCluster.z, 1) from if_neg (dec_not.1 e)]
    refine T_auto TT_ok rfl ?_
    refine T_view (V_nilR 6 2 1 (fun i => cPlace (([] : List GPlace).getD i GPlace.z)) rfl rfl rfl) ?_
    refine T_view (V_nilR 6 3 4 (fun i => cMachine (([] : List GMachine).getD i GMachine.z)) rfl rfl rfl) ?_
    refine T_view (V_nilR 6 4 7 (fun i => cTx (([] : List GTx).getD i GTx.z)) rfl rfl rfl) ?_
    refine T_view (V_open 6 2 901 rfl rfl rfl rfl rfl rfl) ?_
    refine T_view (V_open 6 3 902 rfl rfl rfl rfl rfl rfl) ?_
    refine T_view (V_open 6 4 903 rfl rfl rfl rfl rfl rfl) ?_
    refine T_ret TT_ok (()) [(6, some 33), (7, none)] rfl rfl ?_ ?_ ?_
    · exact SVs.imp_refl _
    · exact ⟨⟨_, rfl, Ch.imp_refl _⟩, ⟨_, rfl, Ch.imp_refl _⟩, ⟨_, rfl, Ch.imp_refl _⟩, trivial⟩
    · trivial
  have hok := dec_iff.1 e
  rw [show beginM c id home = (bif begB2 c id then (c, 2) else bif begB3 c home then (c, 3) else ({ c with txs := c.txs ++ [newT id home] }, 0)) from if_pos hok]
  refine T_auto TT_ok rfl ?_
  refine RJ_C TT_ok (cloneCluster_m c hb) rfl rfl (SVs.imp_refl _) (fun _ => rfl) rfl rfl rfl fun _ _ => ?_
  refine RJ_auto TT_ok rfl ?_
  refine RJ_Q TT_ok (impl_isId_q _) rfl rfl rfl rfl rfl ?_
  refine T_cond (b := begB2 c id) rfl (fun e => ?_) (fun e2 => ?_)
  · rw [e]
    refine T_auto TT_ok rfl ?_
    refine T_ret TT_ok (()) [(6, some 33), (7, none)] rfl rfl ?_ ?_ ?_
    · exact SVs.imp_refl _
    · exact ⟨⟨_, rfl, Ch.imp_refl _⟩, ⟨_, rfl, Ch.imp_refl _⟩, ⟨_, rfl, Ch.imp_refl _⟩, trivial⟩
    · trivial
  rw [e2]
  refine T_auto TT_ok rfl ?_
  refine RJ_Q TT_ok (sizeMachine_q _) rfl rfl rfl rfl rfl ?_
  refine RJ_QO TT_ok (impl_within_q _ _ _) rfl rfl (SVs.imp_refl _) rfl rfl ?_ ?_
  · exact ⟨guard_in, trivial⟩
  refine T_cond (b := begB3 c home) rfl (fun e => ?_) (fun e3 => ?_)
  · rw [e]
    refine T_auto TT_ok rfl ?_
    refine T_ret TT_ok (()) [(6, some 33), (7, none)] rfl rfl ?_ ?_ ?_
    · exact SVs.imp_refl _
    · exact ⟨⟨_, rfl, Ch.imp_refl _⟩, ⟨_, rfl, Ch.imp_refl _⟩, ⟨_, rfl, Ch.imp_refl _⟩, trivial⟩
    · trivial
  rw [e3]
  have h3 : c.txs.length ≤ 60 := hok.1.2.2.2
  refine T_auto TT_ok rfl ?_
  refine RJ_bs TT_ok 68 (fun _ => dNew id home) rfl rfl rfl rfl rfl rfl rfl (fun i hi => by rcases i with _ | i <;> first | rfl | omega) (mu1 := []) rfl rfl rfl ?_
  refine RJ_auto TT_ok rfl ?_
  refine RJ_appM TT_ok 903 68 69 rfl rfl rfl rfl rfl rfl rfl rfl rfl rfl rfl rfl ⟨by show (c.txs.length + 1) * 88 ≤ _; omega, by unfold maxL; omega⟩ ?_
  refine RJ_auto TT_ok rfl ?_
  refine T_view (V_sw 69 903) ?_
  refine T_ret TT_ok (()) [(6, some 33), (7, none)] rfl rfl ?_ ?_ ?_
  · exact SVs.imp_refl _
  · exact ⟨⟨_, rfl, Ch.imp_refl _⟩, ⟨_, rfl, Ch.imp_refl _⟩, ⟨_, rfl, imp_app1' rfl (own_newT id home)⟩, trivial⟩
  · trivial
end Go.Proofs.YtiegllklalplnaaGreat
