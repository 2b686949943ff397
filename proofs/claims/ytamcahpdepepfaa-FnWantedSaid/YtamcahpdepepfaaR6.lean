
/-
  What the laws of notes and Sets draw; what they compare.
-/
import Derived.Test.YtamcahpdepepfaaR5
namespace Go.Proofs.Ytamcahpdepepfaa
open Go Go.RowKit
set_option linter.unusedVariables false
set_option linter.unusedSimpArgs false
set_option maxRecDepth 4000

abbrev bytC (n : Nat) (β : Nat → Int) : Ch := .ro 1 n fun k => [.v (.int .u8 (β k))]
theorem drawTxOk_c {n : Nat} {β : Nat → Int} (hn : n ≤ 1048576) (hβ : byteB β) : Con Try.prog 22 [701] [.a (.g 701)] [(701, bytC n β)] (fun t : GTx => smallT 13 t) (fun t => [agTxG t 901 902]) fun t => [(901, arrC 5 cNote GNote.z t.reads), (902, arrC 5 cSet GSet.z t.sets)] := by
  refine con_enter Try.func22 rfl rfl rfl fun B0 r_ D_ w0 => ?_
  refine T_auto TT_ok rfl ?_
  refine RJ_C TT_ok (l1New_c hn hβ) rfl rfl (SVs.imp_refl _) (fun _ => rfl) rfl rfl rfl fun h0 _ => ?_
  refine RJ_auto TT_ok rfl ?_
  refine RJ_C (nk := [700, 901, 902]) TT_ok (l7Draw_c hn hβ 0 h0 (Int.le_refl _) (Int.natCast_nonneg _)) rfl rfl (SVs.imp_refl _) (fun _ => rfl) rfl rfl rfl fun y ⟨y1, y2, y3⟩ => ?_
  refine RJ_auto TT_ok rfl ?_
  refine T_ret TT_ok (y.1) [(2, some 27)] rfl rfl ?_ ?_ ?_
  · exact SVs.imp_refl _
  · exact ⟨⟨_, rfl, Ch.imp_refl _⟩, ⟨_, rfl, Ch.imp_refl _⟩, trivial⟩
  · exact y1
theorem drawWants_c {n : Nat} {β : Nat → Int} (hn : n ≤ 1048576) (hβ : byteB β) : Con Try.prog 6 [701] [.a (.g 701)] [(701, bytC n β)] (fun t : GTx => smallT 13 t) (fun t => [agTxG t 901 902]) fun t => [(901, arrC 5 cNote GNote.z t.reads), (902, arrC 5 cSet GSet.z t.sets)] := by
  refine con_enter Try.func6 rfl rfl rfl fun B0 r_ D_ w0 => ?_
  refine T_auto TT_ok rfl ?_
  refine RJ_C (nk := [901, 902]) TT_ok (drawTxOk_c hn hβ) rfl rfl (SVs.imp_refl _) (fun _ => rfl) rfl rfl rfl fun t ht => ?_
  refine RJ_auto TT_ok rfl ?_
  refine T_ret TT_ok (t) [(2, some 27)] rfl rfl ?_ ?_ ?_
  · exact SVs.imp_refl _
  · exact ⟨⟨_, rfl, Ch.imp_refl _⟩, ⟨_, rfl, Ch.imp_refl _⟩, trivial⟩
  · exact ht
theorem drawAddRead_c {n : Nat} {β : Nat → Int} (hn : n ≤ 1048576) (hβ : byteB β) : Con Try.prog 15 [701] [.a (.g 701)] [(701, bytC n β)] (fun y : GTx × GNote => smallT 13 y.1) (fun y => [agTxG y.1 901 902, vR (cNote y.2)]) fun y => [(901, arrC 5 cNote GNote.z y.1.reads), (902, arrC 5 cSet GSet.z y.1.sets)] := by
  refine con_enter Try.func15 rfl rfl rfl fun B0 r_ D_ w0 => ?_
  refine T_auto TT_ok rfl ?_
  refine RJ_C TT_ok (l1New_c hn hβ) rfl rfl (SVs.imp_refl _) (fun _ => rfl) rfl rfl rfl fun h0 _ => ?_
  refine RJ_auto TT_ok rfl ?_
  refine RJ_C (nk := [700, 901, 902]) TT_ok (l7Draw_c hn hβ 0 h0 (Int.le_refl _) (Int.natCast_nonneg _)) rfl rfl (SVs.imp_refl _) (fun _ => rfl) rfl rfl rfl fun y ⟨y1, y2, y3⟩ => ?_
  refine RJ_auto TT_ok rfl ?_
  refine T_drawL TT_ok [700, 2, 3] [0, 1, 2, 3, 4] rfl rfl fun B0 H0 => ?_
  refine DJ_C 2 (l7DrawNote_c hn hβ y.2.1 y.2.2 y2 y3) rfl rfl rfl (SVs.imp_refl _) (fun _ => rfl) rfl rfl rfl fun z ⟨z1, z2, z3⟩ => ?_
  refine DJ_one 3 rfl (by kernel_rfl) (OJ_M TT_ok rfl rfl rfl rfl rfl rfl (SJ_dj ?_))
  refine DJ_one 4 rfl (by kernel_rfl) (OJ_M TT_ok rfl rfl rfl rfl rfl rfl (SJ_dj ?_))
  refine DJ_endA TT_ok rfl ?_
  refine T_ret TT_ok ((y.1, z.1)) [(2, some 27), (3, some 39)] rfl rfl ?_ ?_ ?_
  · exact SVs.imp_refl _
  · exact ⟨⟨_, rfl, Ch.imp_refl _⟩, ⟨_, rfl, Ch.imp_refl _⟩, trivial⟩
  · exact y1
theorem drawAddSet_c {n : Nat} {β : Nat → Int} (hn : n ≤ 1048576) (hβ : byteB β) : Con Try.prog 19 [701] [.a (.g 701)] [(701, bytC n β)] (fun y : GTx × GSet => smallT 13 y.1) (fun y => [agTxG y.1 901 902, vR (cSet y.2)]) fun y => [(901, arrC 5 cNote GNote.z y.1.reads), (902, arrC 5 cSet GSet.z y.1.sets)] := by
  refine con_enter Try.func19 rfl rfl rfl fun B0 r_ D_ w0 => ?_
  refine T_auto TT_ok rfl ?_
  refine RJ_C TT_ok (l1New_c hn hβ) rfl rfl (SVs.imp_refl _) (fun _ => rfl) rfl rfl rfl fun h0 _ => ?_
  refine RJ_auto TT_ok rfl ?_
  refine RJ_C (nk := [700, 901, 902]) TT_ok (l7Draw_c hn hβ 0 h0 (Int.le_refl _) (Int.natCast_nonneg _)) rfl rfl (SVs.imp_refl _) (fun _ => rfl) rfl rfl rfl fun y ⟨y1, y2, y3⟩ => ?_
  refine RJ_auto TT_ok rfl ?_
  refine T_drawL TT_ok [700, 2, 3] [0, 1, 2, 3, 4, 5, 6] rfl rfl fun B0 H0 => ?_
  refine DJ_C 3 (l1Below_c hn hβ y.2.1 y.2.2 y2 y3 3) rfl rfl rfl (SVs.imp_refl _) (fun _ => rfl) rfl rfl rfl fun a ⟨a1, a2, a3⟩ => ?_
  refine DJ_C 4 (l2DrawSet_c hn hβ a.2.1 a.2.2 a2 a3 a.1 (by omega)) rfl rfl rfl (SVs.imp_refl _) (fun _ => rfl) rfl rfl rfl fun z ⟨z1, z2, z3⟩ => ?_
  refine DJ_one 5 rfl (by kernel_rfl) (OJ_M TT_ok rfl rfl rfl rfl rfl rfl (SJ_dj ?_))
  refine DJ_one 6 rfl (by kernel_rfl) (OJ_M TT_ok rfl rfl rfl rfl rfl rfl (SJ_dj ?_))
  refine DJ_endA TT_ok rfl ?_
  refine T_ret TT_ok ((y.1, z.1)) [(2, some 27), (3, some 37)] rfl rfl ?_ ?_ ?_
  · exact SVs.imp_refl _
  · exact ⟨⟨_, rfl, Ch.imp_refl _⟩, ⟨_, rfl, Ch.imp_refl _⟩, trivial⟩
  · exact y1
theorem big_q (n : Nat) (f : Nat → List D) : Ans Try.prog 5 [] [.a (.s .r 1 n f)] [] (vB (decide ((n : Int) > 4096))) := by
  refine con_enter Try.func5 rfl rfl rfl fun B0 r_ D_ w0 => ?_
  refine T_auto TT_ok rfl ?_
  exact T_ansB TT_ok [(2, none)] rfl rfl (rfl)
theorem impl_TxOk_q (t : GTx) : Ans Try.prog 13 [] [vR (cTx t)] [] (vB (dec (TxOk t))) := by
  refine con_enter Try.func13 rfl rfl rfl fun B0 r_ D_ w0 => ?_
  refine T_auto TT_ok rfl ?_
  refine RJ_Q TT_ok (impl_isTx_q t) rfl rfl rfl rfl rfl ?_
  exact T_ansB TT_ok [(2, none)] rfl rfl (rfl)
theorem likeInts_q (xs : List Int) (hl : xs.length ≤ 1048576) : Ans Try.prog 9 [] [vL 1 cInt 0 xs, vL 1 cInt 0 xs] [] (vB true) := by
  refine con_enter Try.func9 rfl rfl rfl fun B0 r_ D_ w0 => ?_
  refine T_auto TT_ok rfl ?_
  refine T_condN rfl (fun e => absurd rfl e) (fun _ => ?_)
  refine T_auto TT_ok rfl ?_
  refine T_loopA (ι := Nat) (fun i => [(5, vI i)]) (fun _ => []) (fun i => i ≤ xs.length) (fun i => xs.length - i) 0 [] [] rfl rfl (Nat.zero_le _) (by repeat (first | exact trivial | refine And.intro ⟨_, rfl, SV.imp_refl _⟩ ?_)) (by repeat (first | exact trivial | refine And.intro ⟨_, rfl, Ch.imp_refl _⟩ ?_)) ?_
  intro i h1
  refine T_auto TT_ok rfl ?_
  refine T_condD rfl (fun e => ?_) (fun e => ?_)
  · have hi : i < xs.length := by omega
    refine T_auto TT_ok rfl ?_
    refine T_drawA TT_ok [] rfl rfl fun B0 H0 => ?_
    refine DJ_endA TT_ok rfl ?_
    refine T_condN rfl (fun e => absurd rfl e) (fun _ => ?_)
    refine T_auto TT_ok rfl ?_
    exact X_inv (i + 1) hi (by omega) (by repeat (first | exact trivial | refine And.intro ⟨_, rfl, SV.imp_refl _⟩ ?_)) (by repeat (first | exact trivial | refine And.intro ⟨_, rfl, Ch.imp_refl _⟩ ?_))
  · refine T_auto TT_ok rfl ?_
    exact T_ansB TT_ok [(4, none)] rfl rfl (rfl)
theorem likeNotes_q (xs : List GNote) (hl : xs.length ≤ 1048576) : Ans Try.prog 11 [] [vL 5 cNote GNote.z xs, vL 5 cNote GNote.z xs] [] (vB true) := by
  refine con_enter Try.func11 rfl rfl rfl fun B0 r_ D_ w0 => ?_
  refine T_auto TT_ok rfl ?_
  refine T_condN rfl (fun e => absurd rfl e) (fun _ => ?_)
  refine T_auto TT_ok rfl ?_
  refine T_loopA (ι := Nat) (fun i => [(5, vI i)]) (fun _ => []) (fun i => i ≤ xs.length) (fun i => xs.length - i) 0 [] [] rfl rfl (Nat.zero_le _) (by repeat (first | exact trivial | refine And.intro ⟨_, rfl, SV.imp_refl _⟩ ?_)) (by repeat (first | exact trivial | refine And.intro ⟨_, rfl, Ch.imp_refl _⟩ ?_)) ?_
  intro i h1
  refine T_auto TT_ok rfl ?_
  refine T_condD rfl (fun e => ?_) (fun e => ?_)
  · have hi : i < xs.length := by omega
    refine T_auto TT_ok rfl ?_
    refine T_drawA TT_ok [] rfl rfl fun B0 H0 => ?_
    refine DJ_endA TT_ok rfl ?_
    refine T_cond rfl (fun e => by simp at e) (fun _ => ?_)
    refine T_auto TT_ok rfl ?_
    exact X_inv (i + 1) hi (by omega) (by repeat (first | exact trivial | refine And.intro ⟨_, rfl, SV.imp_refl _⟩ ?_)) (by repeat (first | exact trivial | refine And.intro ⟨_, rfl, Ch.imp_refl _⟩ ?_))
  · refine T_auto TT_ok rfl ?_
    exact T_ansB TT_ok [(4, none)] rfl rfl (rfl)
theorem likeSets_q (xs : List GSet) (hl : xs.length ≤ 1048576) : Ans Try.prog 40 [] [vL 5 cSet GSet.z xs, vL 5 cSet GSet.z xs] [] (vB true) := by
  refine con_enter Try.func40 rfl rfl rfl fun B0 r_ D_ w0 => ?_
  refine T_auto TT_ok rfl ?_
  refine T_condN rfl (fun e => absurd rfl e) (fun _ => ?_)
  refine T_auto TT_ok rfl ?_
  refine T_loopA (ι := Nat) (fun i => [(5, vI i)]) (fun _ => []) (fun i => i ≤ xs.length) (fun i => xs.length - i) 0 [] [] rfl rfl (Nat.zero_le _) (by repeat (first | exact trivial | refine And.intro ⟨_, rfl, SV.imp_refl _⟩ ?_)) (by repeat (first | exact trivial | refine And.intro ⟨_, rfl, Ch.imp_refl _⟩ ?_)) ?_
  intro i h1
  refine T_auto TT_ok rfl ?_
  refine T_condD rfl (fun e => ?_) (fun e => ?_)
  · have hi : i < xs.length := by omega
    refine T_auto TT_ok rfl ?_
    refine T_drawA TT_ok [] rfl rfl fun B0 H0 => ?_
    refine DJ_endA TT_ok rfl ?_
    refine T_cond rfl (fun e => by simp at e) (fun _ => ?_)
    refine T_auto TT_ok rfl ?_
    exact X_inv (i + 1) hi (by omega) (by repeat (first | exact trivial | refine And.intro ⟨_, rfl, SV.imp_refl _⟩ ?_)) (by repeat (first | exact trivial | refine And.intro ⟨_, rfl, Ch.imp_refl _⟩ ?_))
  · refine T_auto TT_ok rfl ?_
    exact T_ansB TT_ok [(4, none)] rfl rfl (rfl)
theorem likeTx_q (t : GTx) (h1 : t.reads.length ≤ 1048576) (h2 : t.sets.length ≤ 1048576) : Ans Try.prog 18 [] [vR (cTx t), vR (cTx t)] [] (vB true) := by
  refine con_enter Try.func18 rfl rfl rfl fun B0 r_ D_ w0 => ?_
  refine T_auto TT_ok rfl ?_
  refine RJ_Q TT_ok (likeNotes_q t.reads h1) rfl rfl rfl rfl rfl ?_
  refine RJ_Q TT_ok (likeSets_q t.sets h2) rfl rfl rfl rfl rfl ?_
  exact T_ansB TT_ok [(4, none)] rfl rfl ((by simp))
end Go.Proofs.Ytamcahpdepepfaa
