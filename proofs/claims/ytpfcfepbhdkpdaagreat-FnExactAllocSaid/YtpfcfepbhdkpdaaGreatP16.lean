
/-
  Copies of transactions, records, machines, clusters; on both sides.
-/
import Derived.Test.YtpfcfepbhdkpdaaGreatP15
import Derived.Test.YtpfcfepbhdkpdaaGreatG3
namespace Go.Proofs.YtpfcfepbhdkpdaaGreat
open Go Go.RowKit
set_option linter.unusedVariables false
set_option linter.unusedSimpArgs false
set_option maxRecDepth 4000

/-- no value of a slice -/
abbrev nilV : V := .v (.slice none 0 0)
/-- a function that makes a transaction -/
abbrev MkT (P : Program) (f : Nat) (args : List SV) (t : GTx) : Prop := Con P f [] args [] (fun _ : Unit => True) (fun _ => [agTxG t 901 902]) fun _ => [(901, arrC 5 cNote GNote.z t.reads), (902, arrC 5 cSet GSet.z t.sets)]
abbrev MkR (P : Program) (f : Nat) (args : List SV) (t : GRecord) : Prop := Con P f [] args [] (fun _ : Unit => True) (fun _ => [agRecordG t 901]) fun _ => [(901, arrC 5 cSet GSet.z t.sets)]
abbrev MkMach (P : Program) (f : Nat) (args : List SV) (m : GMachine) : Prop := Con P f [] args [] (fun _ : Unit => True) (fun _ => [agMachineG m 901 902 903]) fun _ => [(901, arrC 2 cCopy GCopy.z m.copies), (902, arrC 4 cRecord GRecord.z m.log), (903, arrC 1 cInt 0 m.cleared)]
abbrev MkClus (P : Program) (f : Nat) (args : List SV) (c : GCluster) : Prop := Con P f [] args [] (fun _ : Unit => True) (fun _ => [agClusterG c 901 902 903]) fun _ => [(901, arrC 1 cPlace GPlace.z c.places), (902, arrC 4 cMachine GMachine.z c.machines), (903, arrC 7 cTx GTx.z c.txs)]
theorem l7Copy_m (t : GTx) (h1 : t.reads.length ≤ 1048576) (h2 : t.sets.length ≤ 1048576) : MkT Tryz.prog 66 [vR (cTx t)] t := by
  refine con_enter Tryz.func66 rfl rfl rfl fun B0 r_ D_ w0 => ?_
  refine T_auto TT_ok rfl ?_
  refine RJ_bs TT_ok 3 (fun i => cNote (([] : List GNote).getD i GNote.z)) rfl rfl rfl rfl rfl rfl rfl (fun i hi => absurd hi (Nat.not_lt_zero _)) (mu1 := []) rfl rfl rfl ?_
  refine RJ_auto TT_ok rfl ?_
  refine RJ_appC TT_ok 3 901 rfl rfl rfl rfl rfl rfl rfl rfl rfl rfl rfl rfl ⟨by simp; omega, by unfold maxL; omega⟩ ?_
  refine RJ_auto TT_ok rfl ?_
  refine RJ_bs TT_ok 8 (fun i => cSet (([] : List GSet).getD i GSet.z)) rfl rfl rfl rfl rfl rfl rfl (fun i hi => absurd hi (Nat.not_lt_zero _)) (mu1 := []) rfl rfl rfl ?_
  refine RJ_auto TT_ok rfl ?_
  refine RJ_appC TT_ok 8 902 rfl rfl rfl rfl rfl rfl rfl rfl rfl rfl rfl rfl ⟨by simp; omega, by unfold maxL; omega⟩ ?_
  refine RJ_auto TT_ok rfl ?_
  refine T_ret TT_ok (()) [(2, some 56)] rfl rfl ?_ ?_ ?_
  · exact SVs.imp_refl _
  · exact ⟨⟨_, rfl, imp_app (ys := ([] : List GNote)) (by simp)⟩, ⟨_, rfl, imp_app (ys := ([] : List GSet)) (by simp)⟩, trivial⟩
  · trivial
theorem cloneTx_m (t : GTx) (h1 : t.reads.length ≤ 1048576) (h2 : t.sets.length ≤ 1048576) : MkT Tryz.prog 86 [vR (cTx t)] t := by
  refine con_enter Tryz.func86 rfl rfl rfl fun B0 r_ D_ w0 => ?_
  refine T_auto TT_ok rfl ?_
  refine T_drawL TT_ok [] [0, 1, 3, 4, 2, 5, 6, 7, 8, 9] rfl rfl fun B0 H0 => ?_
  refine DJ_C 2 (Con.sw 900 901 (cloneNote_m t.reads h1)) rfl rfl rfl (SVs.imp_refl _) (fun _ => rfl) rfl rfl rfl fun _ _ => ?_
  refine DJ_onL TT_ok [6, 5, 7, 8, 9] rfl ?_
  refine DJ_C 5 (Con.sw 900 902 (cloneSet_m t.sets h2)) rfl rfl rfl (SVs.imp_refl _) (fun _ => rfl) rfl rfl rfl fun _ _ => ?_
  refine DJ_sw2 7 rfl (by kernel_rfl) (by kernel_rfl) (OJ_M TT_ok rfl rfl rfl rfl rfl rfl (SJ_sw [1] fun B0 H0 => ?_))
  refine DJ_onL TT_ok [8, 9] rfl ?_
  refine DJ_sw2 9 rfl (by kernel_rfl) (by kernel_rfl) (OJ_M TT_ok rfl rfl rfl rfl rfl rfl (SJ_sw [] fun B0 H0 => ?_))
  refine DJ_endA TT_ok rfl ?_
  refine T_ret TT_ok (()) [(2, some 56)] rfl rfl ?_ ?_ ?_
  · exact SVs.imp_refl _
  · exact ⟨⟨_, rfl, Ch.imp_refl _⟩, ⟨_, rfl, Ch.imp_refl _⟩, trivial⟩
  · trivial
theorem l6Record_m (x : GRecord) (h1 : x.sets.length ≤ 1048576) : MkR Tryz.prog 130 [vR (cRecord x)] x := by
  refine con_enter Tryz.func130 rfl rfl rfl fun B0 r_ D_ w0 => ?_
  refine T_auto TT_ok rfl ?_
  refine RJ_bs TT_ok 3 (fun i => cSet (([] : List GSet).getD i GSet.z)) rfl rfl rfl rfl rfl rfl rfl (fun i hi => absurd hi (Nat.not_lt_zero _)) (mu1 := []) rfl rfl rfl ?_
  refine RJ_auto TT_ok rfl ?_
  refine RJ_appC TT_ok 3 901 rfl rfl rfl rfl rfl rfl rfl rfl rfl rfl rfl rfl ⟨by simp; omega, by unfold maxL; omega⟩ ?_
  refine RJ_auto TT_ok rfl ?_
  refine T_ret TT_ok (()) [(2, some 159)] rfl rfl ?_ ?_ ?_
  · exact SVs.imp_refl _
  · exact ⟨⟨_, rfl, imp_app (ys := ([] : List GSet)) (by simp)⟩, trivial⟩
  · trivial
theorem cloneRecord_m (x : GRecord) (h1 : x.sets.length ≤ 1048576) : MkR Tryz.prog 150 [vR (cRecord x)] x := by
  refine con_enter Tryz.func150 rfl rfl rfl fun B0 r_ D_ w0 => ?_
  refine T_auto TT_ok rfl ?_
  refine RJ_C TT_ok (Con.sw 900 901 (cloneSet_m x.sets h1)) rfl rfl (SVs.imp_refl _) (fun _ => rfl) rfl rfl rfl fun _ _ => ?_
  refine RJ_auto TT_ok rfl ?_
  refine T_ret TT_ok (()) [(2, some 159)] rfl rfl ?_ ?_ ?_
  · exact SVs.imp_refl _
  · exact ⟨⟨_, rfl, Ch.imp_refl _⟩, trivial⟩
  · trivial
theorem l6Copy_m (m : GMachine) (hb : D.bds bigN (cMachine m)) : MkMach Tryz.prog 65 [vR (cMachine m)] m := by
  have b1 : m.copies.length ≤ 1048576 := hb.2.1.1
  have b2 : m.log.length ≤ 1048576 := hb.2.2.1.1
  have b3 : m.cleared.length ≤ 1048576 := hb.2.2.2.1.1
  refine con_enter Tryz.func65 rfl rfl rfl fun B0 r_ D_ w0 => ?_
  refine T_auto1 TT_ok rfl ?_
  refine T_freeze 1 rfl rfl rfl rfl (fun _ => rfl) (fun _ => rfl) fun r_ => ?_
  refine T_seq ?_
  refine T_cut [(1, vP (cMachine m)), (2, .a (.p 2 0)), (3, .a (.p 3 0))] [(2, .row [.v (.bool false), nilV, nilV, nilV]), (3, .row [.v (.bool m.alive), nilV, nilV, .g 11]), (11, arrC 1 cInt 0 m.cleared)] ?_ fun key => ?_
  · refine X_go TT_ok rfl ?_
    refine T_view (V_nilR 3 1 2 (fun i => cCopy (([] : List GCopy).getD i GCopy.z)) rfl rfl rfl) ?_
    refine T_view (V_nilR 3 2 4 (fun i => cRecord (([] : List GRecord).getD i GRecord.z)) rfl rfl rfl) ?_
    refine T_view (V_open 3 1 31 rfl rfl rfl rfl rfl rfl) ?_
    refine T_view (V_open 3 2 32 rfl rfl rfl rfl rfl rfl) ?_
    refine T_loopA (ι := Nat) (fun i => [(4, vI i)]) (fun i => [(31, arrC 2 cCopy GCopy.z (m.copies.take i)), (3, .row [.v (.bool m.alive), .g 31, .g 32, .g 11])]) (fun i => i ≤ m.copies.length) (fun i => m.copies.length - i) 0 [31, 3] [31] rfl rfl (Nat.zero_le _) (by repeat (first | exact trivial | refine And.intro ⟨_, rfl, SV.imp_refl _⟩ ?_)) (by repeat (first | exact trivial | refine And.intro ⟨_, rfl, Ch.imp_refl _⟩ ?_)) ?_
    intro i h1
    refine T_auto TT_ok rfl ?_
    refine T_condD rfl (fun e => ?_) (fun e => ?_)
    · have hi : i < m.copies.length := by omega
      have hl : (m.copies.take i).length = i := by rw [List.length_take]; omega
      refine T_auto TT_ok rfl ?_
      refine T_drawL TT_ok [31] [0, 1, 2, 3, 4, 5, 6, 7, 8, 9, 10, 11, 12, 13, 14, 15, 16, 17, 18, 19] rfl rfl fun B0 H0 => ?_
      refine DJ_C 14 (Con.sw 900 34 (l3Copy_m (m.copies.getD i GCopy.z).cells (hb.2.1.2 i hi).2.1.1)) rfl rfl rfl (SVs.imp_refl _) (fun _ => rfl) rfl rfl rfl fun _ _ => ?_
      refine DJ_onL TT_ok [15, 16, 17, 18, 19] rfl ?_
      refine DJ_one 16 rfl (by kernel_rfl) (OJ_bs TT_ok 36 (fun _ => cCopy (m.copies.getD i GCopy.z)) rfl rfl rfl rfl rfl rfl rfl (fun j hj => by rcases j with _ | j <;> first | rfl | omega) (mu1 := [(34, .arr 0 0 fun _ => [])]) rfl rfl rfl (SJ_dj ?_))
      refine DJ_one 17 rfl (by kernel_rfl) (OJ_appM TT_ok 31 36 37 rfl rfl rfl rfl rfl rfl rfl rfl rfl rfl rfl rfl ⟨by show ((m.copies.take i).length + 1) * 32 ≤ _; omega, by unfold maxL; omega⟩ (SJ_dj ?_))
      refine DJ_onL TT_ok [18, 19] rfl ?_
      refine DJ_sw2 19 rfl (by kernel_rfl) (by kernel_rfl) (OJ_M TT_ok rfl rfl rfl rfl rfl rfl (SJ_sw [] fun B0 H0 => ?_))
      refine DJ_endA TT_ok rfl ?_
      refine X_view (V_sw 31 37) ?_
      exact X_inv (i + 1) hi (by omega) (by repeat (first | exact trivial | refine And.intro ⟨_, rfl, SV.imp_refl _⟩ ?_)) ⟨⟨_, rfl, imp_app1 (x := m.copies.getD i GCopy.z) (take_succ_getD hi) rfl⟩, (by repeat (first | exact trivial | refine And.intro ⟨_, rfl, Ch.imp_refl _⟩ ?_))⟩
    have hi : i = m.copies.length := by omega
    subst hi
    rw [List.take_length]
    refine T_auto TT_ok rfl ?_
    refine T_loopA (ι := Nat) (fun i => [(5, vI i)]) (fun i => [(32, arrC 4 cRecord GRecord.z (m.log.take i)), (3, .row [.v (.bool m.alive), .g 31, .g 32, .g 11])]) (fun i => i ≤ m.log.length) (fun i => m.log.length - i) 0 [32, 3] [32] rfl rfl (Nat.zero_le _) (by repeat (first | exact trivial | refine And.intro ⟨_, rfl, SV.imp_refl _⟩ ?_)) (by repeat (first | exact trivial | refine And.intro ⟨_, rfl, Ch.imp_refl _⟩ ?_)) ?_
    intro i h1
    refine T_auto TT_ok rfl ?_
    refine T_condD rfl (fun e => ?_) (fun e => ?_)
    · have hi : i < m.log.length := by omega
      have hl : (m.log.take i).length = i := by rw [List.length_take]; omega
      refine T_auto TT_ok rfl ?_
      refine T_drawL TT_ok [32] [0, 1, 2, 3, 4, 5, 6, 7, 8, 9, 10, 11] rfl rfl fun B0 H0 => ?_
      refine DJ_C 7 (Con.sw 901 53 (l6Record_m (m.log.getD i GRecord.z) (hb.2.2.1.2 i hi).2.2.2.1.1)) rfl rfl rfl (SVs.imp_refl _) (fun _ => rfl) rfl rfl rfl fun _ _ => ?_
      refine DJ_one 8 rfl (by kernel_rfl) (OJ_bs TT_ok 54 (fun _ => cRecord (m.log.getD i GRecord.z)) rfl rfl rfl rfl rfl rfl rfl (fun j hj => by rcases j with _ | j <;> first | rfl | omega) (mu1 := [(53, .arr 0 0 fun _ => [])]) rfl rfl rfl (SJ_dj ?_))
      refine DJ_one 9 rfl (by kernel_rfl) (OJ_appM TT_ok 32 54 55 rfl rfl rfl rfl rfl rfl rfl rfl rfl rfl rfl rfl ⟨by show ((m.log.take i).length + 1) * 48 ≤ _; omega, by unfold maxL; omega⟩ (SJ_dj ?_))
      refine DJ_onL TT_ok [10, 11] rfl ?_
      refine DJ_sw2 11 rfl (by kernel_rfl) (by kernel_rfl) (OJ_M TT_ok rfl rfl rfl rfl rfl rfl (SJ_sw [] fun B0 H0 => ?_))
      refine DJ_endA TT_ok rfl ?_
      refine X_view (V_sw 32 55) ?_
      exact X_inv (i + 1) hi (by omega) (by repeat (first | exact trivial | refine And.intro ⟨_, rfl, SV.imp_refl _⟩ ?_)) ⟨⟨_, rfl, imp_app1 (x := m.log.getD i GRecord.z) (take_succ_getD hi) rfl⟩, (by repeat (first | exact trivial | refine And.intro ⟨_, rfl, Ch.imp_refl _⟩ ?_))⟩
    have hi : i = m.log.length := by omega
    subst hi
    rw [List.take_length]
    refine T_auto TT_ok rfl ?_
    refine T_view (V_sw 31 901) ?_
    refine T_view (V_sw 32 902) ?_
    refine T_view (V_sw 11 903) ?_
    refine T_ret TT_ok (()) [(2, some 86)] rfl rfl ?_ ?_ ?_
    · exact SVs.imp_refl _
    · exact ⟨⟨_, rfl, Ch.imp_refl _⟩, ⟨_, rfl, Ch.imp_refl _⟩, ⟨_, rfl, Ch.imp_refl _⟩, trivial⟩
    · trivial
  · refine T_drawL TT_ok [] [0, 1, 3, 4, 2, 5, 6, 7, 8] rfl rfl fun B0 H0 => ?_
    refine DJ_two 2 7 rfl rfl (by kernel_rfl) (OJ_bs TT_ok 8 (fun i => cInt (([] : List Int).getD i 0)) rfl rfl rfl rfl rfl rfl rfl (fun i hi => absurd hi (Nat.not_lt_zero _)) (mu1 := []) rfl rfl rfl (SJ_dj ?_)) (OJ_M TT_ok rfl rfl rfl rfl rfl rfl (SJ_dj ?_))
    · skip
      refine DJ_two 5 7 rfl rfl (by kernel_rfl) (OJ_appC TT_ok 8 11 rfl rfl rfl rfl rfl rfl rfl rfl rfl rfl rfl rfl ⟨by simp; omega, by unfold maxL; omega⟩ (SJ_dj ?_)) (OJ_M TT_ok rfl rfl rfl rfl rfl rfl (SJ_dj ?_))
      · refine DJ_onL TT_ok [6, 7, 8] rfl ?_
        refine DJ_one 7 rfl (by kernel_rfl) (OJ_M TT_ok rfl rfl rfl rfl rfl rfl (SJ_dj ?_))
        refine DJ_one 8 rfl (by kernel_rfl) (OJ_M TT_ok rfl rfl rfl rfl rfl rfl (SJ_dj ?_))
        exact DJ_endK key (by repeat (first | exact trivial | refine And.intro ⟨_, rfl, SV.imp_refl _⟩ ?_)) ⟨⟨_, rfl, Ch.imp_refl _⟩, ⟨_, rfl, Ch.imp_refl _⟩, ⟨_, rfl, imp_app (ys := ([] : List Int)) (by simp)⟩, trivial⟩
      · skip
        refine DJ_one 5 rfl (by kernel_rfl) (OJ_appC TT_ok 8 11 rfl rfl rfl rfl rfl rfl rfl rfl rfl rfl rfl rfl ⟨by simp; omega, by unfold maxL; omega⟩ (SJ_dj ?_))
        refine DJ_onL TT_ok [6, 8] rfl ?_
        refine DJ_one 8 rfl (by kernel_rfl) (OJ_M TT_ok rfl rfl rfl rfl rfl rfl (SJ_dj ?_))
        exact DJ_endK key (by repeat (first | exact trivial | refine And.intro ⟨_, rfl, SV.imp_refl _⟩ ?_)) ⟨⟨_, rfl, Ch.imp_refl _⟩, ⟨_, rfl, Ch.imp_refl _⟩, ⟨_, rfl, imp_app (ys := ([] : List Int)) (by simp)⟩, trivial⟩
    · skip
      refine DJ_one 2 rfl (by kernel_rfl) (OJ_bs TT_ok 8 (fun i => cInt (([] : List Int).getD i 0)) rfl rfl rfl rfl rfl rfl rfl (fun i hi => absurd hi (Nat.not_lt_zero _)) (mu1 := []) rfl rfl rfl (SJ_dj ?_))
      refine DJ_one 5 rfl (by kernel_rfl) (OJ_appC TT_ok 8 11 rfl rfl rfl rfl rfl rfl rfl rfl rfl rfl rfl rfl ⟨by simp; omega, by unfold maxL; omega⟩ (SJ_dj ?_))
      refine DJ_onL TT_ok [6, 8] rfl ?_
      refine DJ_one 8 rfl (by kernel_rfl) (OJ_M TT_ok rfl rfl rfl rfl rfl rfl (SJ_dj ?_))
      exact DJ_endK key (by repeat (first | exact trivial | refine And.intro ⟨_, rfl, SV.imp_refl _⟩ ?_)) ⟨⟨_, rfl, Ch.imp_refl _⟩, ⟨_, rfl, Ch.imp_refl _⟩, ⟨_, rfl, imp_app (ys := ([] : List Int)) (by simp)⟩, trivial⟩
end Go.Proofs.YtpfcfepbhdkpdaaGreat
