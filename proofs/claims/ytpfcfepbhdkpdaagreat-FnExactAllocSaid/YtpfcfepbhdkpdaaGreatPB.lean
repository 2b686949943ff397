
/-
  The laws' helpers, at plain kinds and slices of them.
  The laws' helpers, at transactions.
-/
import Derived.Test.YtpfcfepbhdkpdaaGreatPA
namespace Go.Proofs.YtpfcfepbhdkpdaaGreat
open Go Go.RowKit
set_option linter.unusedVariables false
set_option linter.unusedSimpArgs false

section
set_option maxRecDepth 4000

theorem toSet_q (a : GSet) : Ans Tryz.prog 177 [] [vR (cSet a)] [] (vR (cSet a)) := by
  refine con_enter Tryz.func177 rfl rfl rfl fun B0 r_ D_ w0 => ?_
  refine T_auto TT_ok rfl ?_
  exact T_ans TT_ok [(2, some 97)] rfl rfl (rfl)
theorem eqSet_q (a : GSet) : Ans Tryz.prog 193 [] [vR (cSet a), vR (cSet a)] [] (vB true) := by
  refine con_enter Tryz.func193 rfl rfl rfl fun B0 r_ D_ w0 => ?_
  refine T_auto TT_ok rfl ?_
  refine T_condN rfl (fun e => absurd rfl e) (fun _ => ?_)
  refine T_auto TT_ok rfl ?_
  refine T_condN rfl (fun e => absurd rfl e) (fun _ => ?_)
  refine T_auto TT_ok rfl ?_
  refine T_condN rfl (fun e => absurd rfl e) (fun _ => ?_)
  refine T_auto TT_ok rfl ?_
  refine T_condX rfl (fun e => by simp at e) (fun _ => ?_)
  refine T_auto TT_ok rfl ?_
  refine T_condN rfl (fun e => absurd rfl e) (fun _ => ?_)
  refine T_auto TT_ok rfl ?_
  exact T_ansB TT_ok [(4, none)] rfl rfl (rfl)
theorem toSetS_m (xs : List GSet) (hl : xs.length ≤ 1048576) : MkL Tryz.prog 135 [vL 5 cSet GSet.z xs] 5 cSet GSet.z xs := by
  refine con_enter Tryz.func135 rfl rfl rfl fun B0 r_ D_ w0 => ?_
  refine T_auto TT_ok rfl ?_
  refine RJ_make TT_ok 7 xs.length rfl rfl rfl rfl rfl rfl rfl ⟨by simp; omega, by unfold maxL; omega⟩ ?_
  refine RJ_auto TT_ok rfl ?_
  refine T_loopA (ι := Nat) (fun i => [(4, vI i)]) (fun i => [(7, .arr 5 xs.length fun k => cSet (if k < i then xs.getD k GSet.z else GSet.z))]) (fun i => i ≤ xs.length) (fun i => xs.length - i) 0 [7] [] rfl rfl (Nat.zero_le _) (by repeat (first | exact trivial | refine And.intro ⟨_, rfl, SV.imp_refl _⟩ ?_)) ⟨⟨_, rfl, Ch.imp_arr fun k hk => by rw [if_neg (Nat.not_lt_zero _)]; rfl⟩, trivial⟩ ?_
  intro i h1
  refine T_auto TT_ok rfl ?_
  refine T_condD rfl (fun e => ?_) (fun e => ?_)
  · have hi : i < xs.length := by omega
    refine T_auto TT_ok rfl ?_
    refine RJ_Q TT_ok (toSet_q _) rfl rfl rfl rfl rfl ?_
    exact X_inv (i + 1) hi (by omega) (by repeat (first | exact trivial | refine And.intro ⟨_, rfl, SV.imp_refl _⟩ ?_)) ⟨⟨_, rfl, Ch.imp_arr fun k hk => fill_step (fun x => cSet x) rfl⟩, (by repeat (first | exact trivial | refine And.intro ⟨_, rfl, Ch.imp_refl _⟩ ?_))⟩
  · have hi : i = xs.length := by omega
    subst hi
    refine T_auto TT_ok rfl ?_
    refine T_view (V_sw 7 900) ?_
    refine T_ret TT_ok (()) [(2, none)] rfl rfl ?_ ?_ ?_
    · exact SVs.imp_refl _
    · exact ⟨⟨_, rfl, Ch.imp_arr fun k hk => by rw [if_pos hk]⟩, trivial⟩
    · trivial
theorem szSetS_q (xs : List GSet) (hx : xs.length ≤ maxL) (l : Int) (h1 : 0 ≤ l) (h2 : l ≤ 1048576) : Ans Tryz.prog 125 [] [vL 5 cSet GSet.z xs, vI l] [] (vI (szI l xs.length)) := by
  unfold maxL at hx
  refine con_enter Tryz.func125 rfl rfl rfl fun B0 r_ D_ w0 => ?_
  refine T_auto TT_ok rfl ?_
  refine T_condD rfl (fun e => ?_) (fun e => ?_)
  · refine T_auto TT_ok rfl ?_
    exact T_ansI TT_ok [(4, none)] rfl rfl (by rw [szI, if_pos e])
  · refine T_auto TT_ok rfl ?_
    exact T_ansI TT_ok [(4, none)] rfl rfl (by rw [szI, if_neg e])
theorem eqSetS_q (xs : List GSet) (hl : xs.length ≤ 1048576) : Ans Tryz.prog 158 [] [vL 5 cSet GSet.z xs, vL 5 cSet GSet.z xs] [] (vB true) := by
  refine con_enter Tryz.func158 rfl rfl rfl fun B0 r_ D_ w0 => ?_
  refine T_auto TT_ok rfl ?_
  refine T_condN rfl (fun e => absurd rfl e) (fun _ => ?_)
  refine T_auto TT_ok rfl ?_
  refine T_loopA (ι := Nat) (fun i => [(5, vI i)]) (fun _ => []) (fun i => i ≤ xs.length) (fun i => xs.length - i) 0 [] [] rfl rfl (Nat.zero_le _) (by repeat (first | exact trivial | refine And.intro ⟨_, rfl, SV.imp_refl _⟩ ?_)) (by repeat (first | exact trivial | refine And.intro ⟨_, rfl, Ch.imp_refl _⟩ ?_)) ?_
  intro i h1
  refine T_auto TT_ok rfl ?_
  refine T_condD rfl (fun e => ?_) (fun e => ?_)
  · have hi : i < xs.length := by omega
    refine T_auto TT_ok rfl ?_
    refine T_drawA TT_ok [] rfl rfl fun B0 H0 => ?_
    refine DJ_Q TT_ok (eqSet_q _) rfl rfl rfl rfl rfl rfl ?_
    refine DJ_endA TT_ok rfl ?_
    refine T_cond rfl (fun e => by cases e) (fun _ => ?_)
    refine T_auto TT_ok rfl ?_
    exact X_inv (i + 1) hi (by omega) (by repeat (first | exact trivial | refine And.intro ⟨_, rfl, SV.imp_refl _⟩ ?_)) (by repeat (first | exact trivial | refine And.intro ⟨_, rfl, Ch.imp_refl _⟩ ?_))
  · refine T_auto TT_ok rfl ?_
    exact T_ansB TT_ok [(4, none)] rfl rfl (rfl)
def mkSet (k : Int) : GSet := ⟨k, k + 1, k + 1 + 1, (k + 1 + 1 + 1).tmod 3 == 0, k + 1 + 1 + 1 + 1⟩
theorem markSetS_c (xs : List GSet) (hl : xs.length ≤ 1048576) (k0 : Int) (h1 : 0 ≤ k0) (h2 : k0 ≤ 1099511627776) : Con Tryz.prog 95 [900] [.a (.g 900), vI k0] [(900, arrC 5 cSet GSet.z xs)] (fun _ : Unit => True) (fun _ => [vI (k0 + 5 * xs.length)]) fun _ => [(900, .arr 5 xs.length fun j => cSet (mkSet (k0 + 5 * j)))] := by
  refine con_enter Tryz.func95 rfl rfl rfl fun B0 r_ D_ w0 => ?_
  refine T_auto TT_ok rfl ?_
  refine T_loopA (ι := Nat) (fun i => [(5, vI i), (1, vI (k0 + 5 * i))]) (fun i => [(900, .arr 5 xs.length fun j => cSet (if j < i then mkSet (k0 + 5 * j) else xs.getD j GSet.z))]) (fun i => i ≤ xs.length) (fun i => xs.length - i) 0 [900] [] rfl rfl (Nat.zero_le _) ⟨⟨_, rfl, SV.imp_refl _⟩, ⟨_, rfl, SV.imp_of (vI_eq (by simp))⟩, trivial⟩ ⟨⟨_, rfl, Ch.imp_arr fun k hk => by rw [if_neg (Nat.not_lt_zero _)]⟩, trivial⟩ ?_
  intro i h3
  refine T_auto TT_ok rfl ?_
  refine T_condD rfl (fun e => ?_) (fun e => ?_)
  · have hi : i < xs.length := by omega
    refine T_view (V_carve 900 i 7000 rfl rfl rfl rfl rfl rfl ⟨by omega, by omega⟩) ?_
    refine T_auto TT_ok rfl ?_
    refine RJ_view (V_pe 16 rfl rfl rfl) ?_
    refine RJ_auto TT_ok rfl ?_
    refine RJ_view (V_pe 23 rfl rfl rfl) ?_
    refine RJ_auto TT_ok rfl ?_
    refine RJ_view (V_pe 30 rfl rfl rfl) ?_
    refine RJ_auto TT_ok rfl ?_
    refine RJ_view (V_pe 39 rfl rfl rfl) ?_
    refine RJ_auto TT_ok rfl ?_
    refine RJ_view (V_pe 46 rfl rfl rfl) ?_
    refine RJ_auto TT_ok rfl ?_
    refine X_view (V_uncarve 900 7000 rfl rfl rfl rfl rfl rfl rfl) ?_
    exact X_inv (i + 1) hi (by omega) ⟨⟨_, rfl, SV.imp_refl _⟩, ⟨_, rfl, SV.imp_of (vI_eq (by omega))⟩, (by repeat (first | exact trivial | refine And.intro ⟨_, rfl, SV.imp_refl _⟩ ?_))⟩ ⟨⟨_, rfl, Ch.imp_arr fun k hk => fill_step2 (i := i) (k := k) (fun x => cSet x) (fun j => mkSet (k0 + 5 * (j : Nat))) (o := fun j => xs.getD j GSet.z) (by rfl)⟩, (by repeat (first | exact trivial | refine And.intro ⟨_, rfl, Ch.imp_refl _⟩ ?_))⟩
  · have hi : i = xs.length := by omega
    subst hi
    refine T_auto TT_ok rfl ?_
    refine T_ret TT_ok (()) [(4, none)] rfl rfl ?_ ?_ ?_
    · exact SVs.imp_refl _
    · exact ⟨⟨_, rfl, Ch.imp_arr fun k hk => by rw [if_pos hk]⟩, trivial⟩
    · trivial
theorem heldSetS_q (n : Nat) (hl : n ≤ 1048576) (k0 : Int) (h1 : 0 ≤ k0) (h2 : k0 ≤ 1099511627776) : Ans Tryz.prog 100 [] [.a (.s .r 5 n fun j => cSet (mkSet (k0 + 5 * j))), vI k0] [] (vI (k0 + 5 * n)) := by
  refine con_enter Tryz.func100 rfl rfl rfl fun B0 r_ D_ w0 => ?_
  refine T_auto TT_ok rfl ?_
  refine T_loopA (ι := Nat) (fun i => [(5, vI i), (1, vI (k0 + 5 * i))]) (fun _ => []) (fun i => i ≤ n) (fun i => n - i) 0 [] [] rfl rfl (Nat.zero_le _) ⟨⟨_, rfl, SV.imp_refl _⟩, ⟨_, rfl, SV.imp_of (vI_eq (by simp))⟩, trivial⟩ (by repeat (first | exact trivial | refine And.intro ⟨_, rfl, Ch.imp_refl _⟩ ?_)) ?_
  intro i h3
  refine T_auto TT_ok rfl ?_
  refine T_condD rfl (fun e => ?_) (fun e => ?_)
  · have hi : i < n := by omega
    refine T_auto TT_ok rfl ?_
    refine T_condN rfl (fun e => absurd rfl e) (fun _ => ?_)
    refine T_auto TT_ok rfl ?_
    refine T_condN rfl (fun e => absurd rfl e) (fun _ => ?_)
    refine T_auto TT_ok rfl ?_
    refine T_condN rfl (fun e => absurd rfl e) (fun _ => ?_)
    refine T_auto TT_ok rfl ?_
    refine T_condX rfl (fun e => absurd ((beq_self_eq_true _).symm.trans e) (by decide)) (fun _ => ?_)
    refine T_auto TT_ok rfl ?_
    refine T_condN rfl (fun e => absurd rfl e) (fun _ => ?_)
    refine T_auto TT_ok rfl ?_
    exact X_inv (i + 1) hi (by omega) ⟨⟨_, rfl, SV.imp_refl _⟩, ⟨_, rfl, SV.imp_of (vI_eq (by omega))⟩, (by repeat (first | exact trivial | refine And.intro ⟨_, rfl, SV.imp_refl _⟩ ?_))⟩ (by repeat (first | exact trivial | refine And.intro ⟨_, rfl, Ch.imp_refl _⟩ ?_))
  · have hi : i = n := by omega
    subst hi
    refine T_auto TT_ok rfl ?_
    exact T_ansI TT_ok [(4, none)] rfl rfl (rfl)
theorem toNote_q (a : GNote) : Ans Tryz.prog 176 [] [vR (cNote a)] [] (vR (cNote a)) := by
  refine con_enter Tryz.func176 rfl rfl rfl fun B0 r_ D_ w0 => ?_
  refine T_auto TT_ok rfl ?_
  exact T_ans TT_ok [(2, some 94)] rfl rfl (rfl)
theorem eqNote_q (a : GNote) : Ans Tryz.prog 192 [] [vR (cNote a), vR (cNote a)] [] (vB true) := by
  refine con_enter Tryz.func192 rfl rfl rfl fun B0 r_ D_ w0 => ?_
  refine T_auto TT_ok rfl ?_
  refine T_condN rfl (fun e => absurd rfl e) (fun _ => ?_)
  refine T_auto TT_ok rfl ?_
  refine T_condN rfl (fun e => absurd rfl e) (fun _ => ?_)
  refine T_auto TT_ok rfl ?_
  refine T_condN rfl (fun e => absurd rfl e) (fun _ => ?_)
  refine T_auto TT_ok rfl ?_
  refine T_condN rfl (fun e => absurd rfl e) (fun _ => ?_)
  refine T_auto TT_ok rfl ?_
  refine T_condX rfl (fun e => by simp at e) (fun _ => ?_)
  refine T_auto TT_ok rfl ?_
  exact T_ansB TT_ok [(4, none)] rfl rfl (rfl)
theorem toNoteS_m (xs : List GNote) (hl : xs.length ≤ 1048576) : MkL Tryz.prog 134 [vL 5 cNote GNote.z xs] 5 cNote GNote.z xs := by
  refine con_enter Tryz.func134 rfl rfl rfl fun B0 r_ D_ w0 => ?_
  refine T_auto TT_ok rfl ?_
  refine RJ_make TT_ok 7 xs.length rfl rfl rfl rfl rfl rfl rfl ⟨by simp; omega, by unfold maxL; omega⟩ ?_
  refine RJ_auto TT_ok rfl ?_
  refine T_loopA (ι := Nat) (fun i => [(4, vI i)]) (fun i => [(7, .arr 5 xs.length fun k => cNote (if k < i then xs.getD k GNote.z else GNote.z))]) (fun i => i ≤ xs.length) (fun i => xs.length - i) 0 [7] [] rfl rfl (Nat.zero_le _) (by repeat (first | exact trivial | refine And.intro ⟨_, rfl, SV.imp_refl _⟩ ?_)) ⟨⟨_, rfl, Ch.imp_arr fun k hk => by rw [if_neg (Nat.not_lt_zero _)]; rfl⟩, trivial⟩ ?_
  intro i h1
  refine T_auto TT_ok rfl ?_
  refine T_condD rfl (fun e => ?_) (fun e => ?_)
  · have hi : i < xs.length := by omega
    refine T_auto TT_ok rfl ?_
    refine RJ_Q TT_ok (toNote_q _) rfl rfl rfl rfl rfl ?_
    exact X_inv (i + 1) hi (by omega) (by repeat (first | exact trivial | refine And.intro ⟨_, rfl, SV.imp_refl _⟩ ?_)) ⟨⟨_, rfl, Ch.imp_arr fun k hk => fill_step (fun x => cNote x) rfl⟩, (by repeat (first | exact trivial | refine And.intro ⟨_, rfl, Ch.imp_refl _⟩ ?_))⟩
  · have hi : i = xs.length := by omega
    subst hi
    refine T_auto TT_ok rfl ?_
    refine T_view (V_sw 7 900) ?_
    refine T_ret TT_ok (()) [(2, none)] rfl rfl ?_ ?_ ?_
    · exact SVs.imp_refl _
    · exact ⟨⟨_, rfl, Ch.imp_arr fun k hk => by rw [if_pos hk]⟩, trivial⟩
    · trivial
theorem szNoteS_q (xs : List GNote) (hx : xs.length ≤ maxL) (l : Int) (h1 : 0 ≤ l) (h2 : l ≤ 1048576) : Ans Tryz.prog 124 [] [vL 5 cNote GNote.z xs, vI l] [] (vI (szI l xs.length)) := by
  unfold maxL at hx
  refine con_enter Tryz.func124 rfl rfl rfl fun B0 r_ D_ w0 => ?_
  refine T_auto TT_ok rfl ?_
  refine T_condD rfl (fun e => ?_) (fun e => ?_)
  · refine T_auto TT_ok rfl ?_
    exact T_ansI TT_ok [(4, none)] rfl rfl (by rw [szI, if_pos e])
  · refine T_auto TT_ok rfl ?_
    exact T_ansI TT_ok [(4, none)] rfl rfl (by rw [szI, if_neg e])
theorem eqNoteS_q (xs : List GNote) (hl : xs.length ≤ 1048576) : Ans Tryz.prog 157 [] [vL 5 cNote GNote.z xs, vL 5 cNote GNote.z xs] [] (vB true) := by
  refine con_enter Tryz.func157 rfl rfl rfl fun B0 r_ D_ w0 => ?_
  refine T_auto TT_ok rfl ?_
  refine T_condN rfl (fun e => absurd rfl e) (fun _ => ?_)
  refine T_auto TT_ok rfl ?_
  refine T_loopA (ι := Nat) (fun i => [(5, vI i)]) (fun _ => []) (fun i => i ≤ xs.length) (fun i => xs.length - i) 0 [] [] rfl rfl (Nat.zero_le _) (by repeat (first | exact trivial | refine And.intro ⟨_, rfl, SV.imp_refl _⟩ ?_)) (by repeat (first | exact trivial | refine And.intro ⟨_, rfl, Ch.imp_refl _⟩ ?_)) ?_
  intro i h1
  refine T_auto TT_ok rfl ?_
  refine T_condD rfl (fun e => ?_) (fun e => ?_)
  · have hi : i < xs.length := by omega
    refine T_auto TT_ok rfl ?_
    refine T_drawA TT_ok [] rfl rfl fun B0 H0 => ?_
    refine DJ_Q TT_ok (eqNote_q _) rfl rfl rfl rfl rfl rfl ?_
    refine DJ_endA TT_ok rfl ?_
    refine T_cond rfl (fun e => by cases e) (fun _ => ?_)
    refine T_auto TT_ok rfl ?_
    exact X_inv (i + 1) hi (by omega) (by repeat (first | exact trivial | refine And.intro ⟨_, rfl, SV.imp_refl _⟩ ?_)) (by repeat (first | exact trivial | refine And.intro ⟨_, rfl, Ch.imp_refl _⟩ ?_))
  · refine T_auto TT_ok rfl ?_
    exact T_ansB TT_ok [(4, none)] rfl rfl (rfl)
def mkNote (k : Int) : GNote := ⟨k, k + 1, k + 1 + 1, k + 1 + 1 + 1, (k + 1 + 1 + 1 + 1).tmod 3 == 0⟩
theorem markNoteS_c (xs : List GNote) (hl : xs.length ≤ 1048576) (k0 : Int) (h1 : 0 ≤ k0) (h2 : k0 ≤ 1099511627776) : Con Tryz.prog 94 [900] [.a (.g 900), vI k0] [(900, arrC 5 cNote GNote.z xs)] (fun _ : Unit => True) (fun _ => [vI (k0 + 5 * xs.length)]) fun _ => [(900, .arr 5 xs.length fun j => cNote (mkNote (k0 + 5 * j)))] := by
  refine con_enter Tryz.func94 rfl rfl rfl fun B0 r_ D_ w0 => ?_
  refine T_auto TT_ok rfl ?_
  refine T_loopA (ι := Nat) (fun i => [(5, vI i), (1, vI (k0 + 5 * i))]) (fun i => [(900, .arr 5 xs.length fun j => cNote (if j < i then mkNote (k0 + 5 * j) else xs.getD j GNote.z))]) (fun i => i ≤ xs.length) (fun i => xs.length - i) 0 [900] [] rfl rfl (Nat.zero_le _) ⟨⟨_, rfl, SV.imp_refl _⟩, ⟨_, rfl, SV.imp_of (vI_eq (by simp))⟩, trivial⟩ ⟨⟨_, rfl, Ch.imp_arr fun k hk => by rw [if_neg (Nat.not_lt_zero _)]⟩, trivial⟩ ?_
  intro i h3
  refine T_auto TT_ok rfl ?_
  refine T_condD rfl (fun e => ?_) (fun e => ?_)
  · have hi : i < xs.length := by omega
    refine T_view (V_carve 900 i 7000 rfl rfl rfl rfl rfl rfl ⟨by omega, by omega⟩) ?_
    refine T_auto TT_ok rfl ?_
    refine RJ_view (V_pe 16 rfl rfl rfl) ?_
    refine RJ_auto TT_ok rfl ?_
    refine RJ_view (V_pe 23 rfl rfl rfl) ?_
    refine RJ_auto TT_ok rfl ?_
    refine RJ_view (V_pe 30 rfl rfl rfl) ?_
    refine RJ_auto TT_ok rfl ?_
    refine RJ_view (V_pe 37 rfl rfl rfl) ?_
    refine RJ_auto TT_ok rfl ?_
    refine RJ_view (V_pe 46 rfl rfl rfl) ?_
    refine RJ_auto TT_ok rfl ?_
    refine X_view (V_uncarve 900 7000 rfl rfl rfl rfl rfl rfl rfl) ?_
    exact X_inv (i + 1) hi (by omega) ⟨⟨_, rfl, SV.imp_refl _⟩, ⟨_, rfl, SV.imp_of (vI_eq (by omega))⟩, (by repeat (first | exact trivial | refine And.intro ⟨_, rfl, SV.imp_refl _⟩ ?_))⟩ ⟨⟨_, rfl, Ch.imp_arr fun k hk => fill_step2 (i := i) (k := k) (fun x => cNote x) (fun j => mkNote (k0 + 5 * (j : Nat))) (o := fun j => xs.getD j GNote.z) (by rfl)⟩, (by repeat (first | exact trivial | refine And.intro ⟨_, rfl, Ch.imp_refl _⟩ ?_))⟩
  · have hi : i = xs.length := by omega
    subst hi
    refine T_auto TT_ok rfl ?_
    refine T_ret TT_ok (()) [(4, none)] rfl rfl ?_ ?_ ?_
    · exact SVs.imp_refl _
    · exact ⟨⟨_, rfl, Ch.imp_arr fun k hk => by rw [if_pos hk]⟩, trivial⟩
    · trivial
theorem heldNoteS_q (n : Nat) (hl : n ≤ 1048576) (k0 : Int) (h1 : 0 ≤ k0) (h2 : k0 ≤ 1099511627776) : Ans Tryz.prog 99 [] [.a (.s .r 5 n fun j => cNote (mkNote (k0 + 5 * j))), vI k0] [] (vI (k0 + 5 * n)) := by
  refine con_enter Tryz.func99 rfl rfl rfl fun B0 r_ D_ w0 => ?_
  refine T_auto TT_ok rfl ?_
  refine T_loopA (ι := Nat) (fun i => [(5, vI i), (1, vI (k0 + 5 * i))]) (fun _ => []) (fun i => i ≤ n) (fun i => n - i) 0 [] [] rfl rfl (Nat.zero_le _) ⟨⟨_, rfl, SV.imp_refl _⟩, ⟨_, rfl, SV.imp_of (vI_eq (by simp))⟩, trivial⟩ (by repeat (first | exact trivial | refine And.intro ⟨_, rfl, Ch.imp_refl _⟩ ?_)) ?_
  intro i h3
  refine T_auto TT_ok rfl ?_
  refine T_condD rfl (fun e => ?_) (fun e => ?_)
  · have hi : i < n := by omega
    refine T_auto TT_ok rfl ?_
    refine T_condN rfl (fun e => absurd rfl e) (fun _ => ?_)
    refine T_auto TT_ok rfl ?_
    refine T_condN rfl (fun e => absurd rfl e) (fun _ => ?_)
    refine T_auto TT_ok rfl ?_
    refine T_condN rfl (fun e => absurd rfl e) (fun _ => ?_)
    refine T_auto TT_ok rfl ?_
    refine T_condN rfl (fun e => absurd rfl e) (fun _ => ?_)
    refine T_auto TT_ok rfl ?_
    refine T_condX rfl (fun e => absurd ((beq_self_eq_true _).symm.trans e) (by decide)) (fun _ => ?_)
    refine T_auto TT_ok rfl ?_
    exact X_inv (i + 1) hi (by omega) ⟨⟨_, rfl, SV.imp_refl _⟩, ⟨_, rfl, SV.imp_of (vI_eq (by omega))⟩, (by repeat (first | exact trivial | refine And.intro ⟨_, rfl, SV.imp_refl _⟩ ?_))⟩ (by repeat (first | exact trivial | refine And.intro ⟨_, rfl, Ch.imp_refl _⟩ ?_))
  · have hi : i = n := by omega
    subst hi
    refine T_auto TT_ok rfl ?_
    exact T_ansI TT_ok [(4, none)] rfl rfl (rfl)
theorem toCell_q (a : GCell) : Ans Tryz.prog 206 [] [vR (cCell a)] [] (vR (cCell a)) := by
  refine con_enter Tryz.func206 rfl rfl rfl fun B0 r_ D_ w0 => ?_
  refine T_auto TT_ok rfl ?_
  exact T_ans TT_ok [(2, some 90)] rfl rfl (rfl)
theorem eqCell_q (a : GCell) : Ans Tryz.prog 207 [] [vR (cCell a), vR (cCell a)] [] (vB true) := by
  refine con_enter Tryz.func207 rfl rfl rfl fun B0 r_ D_ w0 => ?_
  refine T_auto TT_ok rfl ?_
  refine T_condN rfl (fun e => absurd rfl e) (fun _ => ?_)
  refine T_auto TT_ok rfl ?_
  refine T_condN rfl (fun e => absurd rfl e) (fun _ => ?_)
  refine T_auto TT_ok rfl ?_
  exact T_ansB TT_ok [(4, none)] rfl rfl (rfl)
theorem toCellS_m (xs : List GCell) (hl : xs.length ≤ 1048576) : MkL Tryz.prog 200 [vL 2 cCell GCell.z xs] 2 cCell GCell.z xs := by
  refine con_enter Tryz.func200 rfl rfl rfl fun B0 r_ D_ w0 => ?_
  refine T_auto TT_ok rfl ?_
  refine RJ_make TT_ok 7 xs.length rfl rfl rfl rfl rfl rfl rfl ⟨by simp; omega, by unfold maxL; omega⟩ ?_
  refine RJ_auto TT_ok rfl ?_
  refine T_loopA (ι := Nat) (fun i => [(4, vI i)]) (fun i => [(7, .arr 2 xs.length fun k => cCell (if k < i then xs.getD k GCell.z else GCell.z))]) (fun i => i ≤ xs.length) (fun i => xs.length - i) 0 [7] [] rfl rfl (Nat.zero_le _) (by repeat (first | exact trivial | refine And.intro ⟨_, rfl, SV.imp_refl _⟩ ?_)) ⟨⟨_, rfl, Ch.imp_arr fun k hk => by rw [if_neg (Nat.not_lt_zero _)]; rfl⟩, trivial⟩ ?_
  intro i h1
  refine T_auto TT_ok rfl ?_
  refine T_condD rfl (fun e => ?_) (fun e => ?_)
  · have hi : i < xs.length := by omega
    refine T_auto TT_ok rfl ?_
    refine RJ_Q TT_ok (toCell_q _) rfl rfl rfl rfl rfl ?_
    exact X_inv (i + 1) hi (by omega) (by repeat (first | exact trivial | refine And.intro ⟨_, rfl, SV.imp_refl _⟩ ?_)) ⟨⟨_, rfl, Ch.imp_arr fun k hk => fill_step (fun x => cCell x) rfl⟩, (by repeat (first | exact trivial | refine And.intro ⟨_, rfl, Ch.imp_refl _⟩ ?_))⟩
  · have hi : i = xs.length := by omega
    subst hi
    refine T_auto TT_ok rfl ?_
    refine T_view (V_sw 7 900) ?_
    refine T_ret TT_ok (()) [(2, none)] rfl rfl ?_ ?_ ?_
    · exact SVs.imp_refl _
    · exact ⟨⟨_, rfl, Ch.imp_arr fun k hk => by rw [if_pos hk]⟩, trivial⟩
    · trivial
theorem szCellS_q (xs : List GCell) (hx : xs.length ≤ maxL) (l : Int) (h1 : 0 ≤ l) (h2 : l ≤ 1048576) : Ans Tryz.prog 198 [] [vL 2 cCell GCell.z xs, vI l] [] (vI (szI l xs.length)) := by
  unfold maxL at hx
  refine con_enter Tryz.func198 rfl rfl rfl fun B0 r_ D_ w0 => ?_
  refine T_auto TT_ok rfl ?_
  refine T_condD rfl (fun e => ?_) (fun e => ?_)
  · refine T_auto TT_ok rfl ?_
    exact T_ansI TT_ok [(4, none)] rfl rfl (by rw [szI, if_pos e])
  · refine T_auto TT_ok rfl ?_
    exact T_ansI TT_ok [(4, none)] rfl rfl (by rw [szI, if_neg e])
theorem eqCellS_q (xs : List GCell) (hl : xs.length ≤ 1048576) : Ans Tryz.prog 203 [] [vL 2 cCell GCell.z xs, vL 2 cCell GCell.z xs] [] (vB true) := by
  refine con_enter Tryz.func203 rfl rfl rfl fun B0 r_ D_ w0 => ?_
  refine T_auto TT_ok rfl ?_
  refine T_condN rfl (fun e => absurd rfl e) (fun _ => ?_)
  refine T_auto TT_ok rfl ?_
  refine T_loopA (ι := Nat) (fun i => [(5, vI i)]) (fun _ => []) (fun i => i ≤ xs.length) (fun i => xs.length - i) 0 [] [] rfl rfl (Nat.zero_le _) (by repeat (first | exact trivial | refine And.intro ⟨_, rfl, SV.imp_refl _⟩ ?_)) (by repeat (first | exact trivial | refine And.intro ⟨_, rfl, Ch.imp_refl _⟩ ?_)) ?_
  intro i h1
  refine T_auto TT_ok rfl ?_
  refine T_condD rfl (fun e => ?_) (fun e => ?_)
  · have hi : i < xs.length := by omega
    refine T_auto TT_ok rfl ?_
    refine T_drawA TT_ok [] rfl rfl fun B0 H0 => ?_
    refine DJ_Q TT_ok (eqCell_q _) rfl rfl rfl rfl rfl rfl ?_
    refine DJ_endA TT_ok rfl ?_
    refine T_cond rfl (fun e => by cases e) (fun _ => ?_)
    refine T_auto TT_ok rfl ?_
    exact X_inv (i + 1) hi (by omega) (by repeat (first | exact trivial | refine And.intro ⟨_, rfl, SV.imp_refl _⟩ ?_)) (by repeat (first | exact trivial | refine And.intro ⟨_, rfl, Ch.imp_refl _⟩ ?_))
  · refine T_auto TT_ok rfl ?_
    exact T_ansB TT_ok [(4, none)] rfl rfl (rfl)
def mkCell (k : Int) : GCell := ⟨k, k + 1⟩
theorem markCellS_c (xs : List GCell) (hl : xs.length ≤ 1048576) (k0 : Int) (h1 : 0 ≤ k0) (h2 : k0 ≤ 1099511627776) : Con Tryz.prog 159 [900] [.a (.g 900), vI k0] [(900, arrC 2 cCell GCell.z xs)] (fun _ : Unit => True) (fun _ => [vI (k0 + 2 * xs.length)]) fun _ => [(900, .arr 2 xs.length fun j => cCell (mkCell (k0 + 2 * j)))] := by
  refine con_enter Tryz.func159 rfl rfl rfl fun B0 r_ D_ w0 => ?_
  refine T_auto TT_ok rfl ?_
  refine T_loopA (ι := Nat) (fun i => [(5, vI i), (1, vI (k0 + 2 * i))]) (fun i => [(900, .arr 2 xs.length fun j => cCell (if j < i then mkCell (k0 + 2 * j) else xs.getD j GCell.z))]) (fun i => i ≤ xs.length) (fun i => xs.length - i) 0 [900] [] rfl rfl (Nat.zero_le _) ⟨⟨_, rfl, SV.imp_refl _⟩, ⟨_, rfl, SV.imp_of (vI_eq (by simp))⟩, trivial⟩ ⟨⟨_, rfl, Ch.imp_arr fun k hk => by rw [if_neg (Nat.not_lt_zero _)]⟩, trivial⟩ ?_
  intro i h3
  refine T_auto TT_ok rfl ?_
  refine T_condD rfl (fun e => ?_) (fun e => ?_)
  · have hi : i < xs.length := by omega
    refine T_view (V_carve 900 i 7000 rfl rfl rfl rfl rfl rfl ⟨by omega, by omega⟩) ?_
    refine T_auto TT_ok rfl ?_
    refine RJ_view (V_pe 16 rfl rfl rfl) ?_
    refine RJ_auto TT_ok rfl ?_
    refine RJ_view (V_pe 23 rfl rfl rfl) ?_
    refine RJ_auto TT_ok rfl ?_
    refine X_view (V_uncarve 900 7000 rfl rfl rfl rfl rfl rfl rfl) ?_
    exact X_inv (i + 1) hi (by omega) ⟨⟨_, rfl, SV.imp_refl _⟩, ⟨_, rfl, SV.imp_of (vI_eq (by omega))⟩, (by repeat (first | exact trivial | refine And.intro ⟨_, rfl, SV.imp_refl _⟩ ?_))⟩ ⟨⟨_, rfl, Ch.imp_arr fun k hk => fill_step2 (i := i) (k := k) (fun x => cCell x) (fun j => mkCell (k0 + 2 * (j : Nat))) (o := fun j => xs.getD j GCell.z) (by rfl)⟩, (by repeat (first | exact trivial | refine And.intro ⟨_, rfl, Ch.imp_refl _⟩ ?_))⟩
  · have hi : i = xs.length := by omega
    subst hi
    refine T_auto TT_ok rfl ?_
    refine T_ret TT_ok (()) [(4, none)] rfl rfl ?_ ?_ ?_
    · exact SVs.imp_refl _
    · exact ⟨⟨_, rfl, Ch.imp_arr fun k hk => by rw [if_pos hk]⟩, trivial⟩
    · trivial
theorem heldCellS_q (n : Nat) (hl : n ≤ 1048576) (k0 : Int) (h1 : 0 ≤ k0) (h2 : k0 ≤ 1099511627776) : Ans Tryz.prog 160 [] [.a (.s .r 2 n fun j => cCell (mkCell (k0 + 2 * j))), vI k0] [] (vI (k0 + 2 * n)) := by
  refine con_enter Tryz.func160 rfl rfl rfl fun B0 r_ D_ w0 => ?_
  refine T_auto TT_ok rfl ?_
  refine T_loopA (ι := Nat) (fun i => [(5, vI i), (1, vI (k0 + 2 * i))]) (fun _ => []) (fun i => i ≤ n) (fun i => n - i) 0 [] [] rfl rfl (Nat.zero_le _) ⟨⟨_, rfl, SV.imp_refl _⟩, ⟨_, rfl, SV.imp_of (vI_eq (by simp))⟩, trivial⟩ (by repeat (first | exact trivial | refine And.intro ⟨_, rfl, Ch.imp_refl _⟩ ?_)) ?_
  intro i h3
  refine T_auto TT_ok rfl ?_
  refine T_condD rfl (fun e => ?_) (fun e => ?_)
  · have hi : i < n := by omega
    refine T_auto TT_ok rfl ?_
    refine T_condN rfl (fun e => absurd rfl e) (fun _ => ?_)
    refine T_auto TT_ok rfl ?_
    refine T_condN rfl (fun e => absurd rfl e) (fun _ => ?_)
    refine T_auto TT_ok rfl ?_
    exact X_inv (i + 1) hi (by omega) ⟨⟨_, rfl, SV.imp_refl _⟩, ⟨_, rfl, SV.imp_of (vI_eq (by omega))⟩, (by repeat (first | exact trivial | refine And.intro ⟨_, rfl, SV.imp_refl _⟩ ?_))⟩ (by repeat (first | exact trivial | refine And.intro ⟨_, rfl, Ch.imp_refl _⟩ ?_))
  · have hi : i = n := by omega
    subst hi
    refine T_auto TT_ok rfl ?_
    exact T_ansI TT_ok [(4, none)] rfl rfl (rfl)
def mkOp (k : Int) : GOp := ⟨k, k + 1, k + 1 + 1, k + 1 + 1 + 1, k + 1 + 1 + 1 + 1⟩
end

section
set_option maxRecDepth 4000

def szTxI (t : GTx) (l : Int) : Int := if szI l t.reads.length < 0 then -1 else if szI (szI l t.reads.length) t.sets.length < 0 then -1 else szI (szI l t.reads.length) t.sets.length
theorem szTxI_pos {t : GTx} {l : Int} (h : ¬ szTxI t l < 0) : (t.reads.length : Int) ≤ l ∧ (t.sets.length : Int) ≤ l := by
  unfold szTxI szI at h
  split at h
  · omega
  · split at h <;> omega
theorem szTx_q (t : GTx) (h1 : t.reads.length ≤ maxL) (h2 : t.sets.length ≤ maxL) : Ans Tryz.prog 62 [] [vR (cTx t), vI 1048576] [] (vI (szTxI t 1048576)) := by
  refine con_enter Tryz.func62 rfl rfl rfl fun B0 r_ D_ w0 => ?_
  refine T_auto TT_ok rfl ?_
  refine RJ_Q TT_ok (szNoteS_q _ h1 _ (by decide) (by decide)) rfl rfl rfl rfl rfl ?_
  refine T_condD rfl (fun e => ?_) (fun e => ?_)
  · refine T_auto TT_ok rfl ?_
    exact T_ansI TT_ok [(4, none)] rfl rfl (by rw [szTxI, if_pos e])
  have hle : szI 1048576 t.reads.length ≤ 1048576 := by unfold szI; split <;> omega
  refine T_auto TT_ok rfl ?_
  refine RJ_Q TT_ok (szSetS_q _ h2 _ (by omega) hle) rfl rfl rfl rfl rfl ?_
  refine T_condD rfl (fun e2 => ?_) (fun e2 => ?_)
  · refine T_auto TT_ok rfl ?_
    exact T_ansI TT_ok [(4, none)] rfl rfl (by rw [szTxI, if_neg e, if_pos e2])
  · refine T_auto TT_ok rfl ?_
    exact T_ansI TT_ok [(4, none)] rfl rfl (by rw [szTxI, if_neg e, if_neg e2])
/-- a transaction whose parts are own arrays -/
abbrev agTx (t : GTx) (k1 k2 : Nat) : SV := .ag [.v (.int .i64 t.id), .v (.int .i64 t.home), .v (.int .i64 t.phase), .v (.int .i64 t.done), .g k1, .g k2, .v (.int .i64 t.stamp)]
theorem toTx_m (t : GTx) (h1 : t.reads.length ≤ 1048576) (h2 : t.sets.length ≤ 1048576) : Con Tryz.prog 69 [] [vR (cTx t)] [] (fun _ : Unit => True) (fun _ => [agTx t 901 902]) fun _ => [(901, arrC 5 cNote GNote.z t.reads), (902, arrC 5 cSet GSet.z t.sets)] := by
  refine con_enter Tryz.func69 rfl rfl rfl fun B0 r_ D_ w0 => ?_
  refine T_auto TT_ok rfl ?_
  refine RJ_C TT_ok (Con.sw 900 901 (toNoteS_m t.reads h1)) rfl rfl (SVs.imp_refl _) (fun _ => rfl) rfl rfl rfl fun _ _ => ?_
  refine RJ_auto TT_ok rfl ?_
  refine RJ_C TT_ok (Con.sw 900 902 (toSetS_m t.sets h2)) rfl rfl (SVs.imp_refl _) (fun _ => rfl) rfl rfl rfl fun _ _ => ?_
  refine RJ_auto TT_ok rfl ?_
  refine T_ret TT_ok (()) [(2, some 56)] rfl rfl ?_ ?_ ?_
  · exact SVs.imp_refl _
  · exact ⟨⟨_, rfl, Ch.imp_refl _⟩, ⟨_, rfl, Ch.imp_refl _⟩, trivial⟩
  · trivial
theorem eqTx_q (t : GTx) (h1 : t.reads.length ≤ 1048576) (h2 : t.sets.length ≤ 1048576) : Ans Tryz.prog 90 [] [vR (cTx t), vR (cTx t)] [] (vB true) := by
  refine con_enter Tryz.func90 rfl rfl rfl fun B0 r_ D_ w0 => ?_
  refine T_auto TT_ok rfl ?_
  refine T_condN rfl (fun e => absurd rfl e) (fun _ => ?_)
  refine T_auto TT_ok rfl ?_
  refine T_condN rfl (fun e => absurd rfl e) (fun _ => ?_)
  refine T_auto TT_ok rfl ?_
  refine T_condN rfl (fun e => absurd rfl e) (fun _ => ?_)
  refine T_auto TT_ok rfl ?_
  refine T_condN rfl (fun e => absurd rfl e) (fun _ => ?_)
  refine T_auto TT_ok rfl ?_
  refine RJ_Q TT_ok (eqNoteS_q _ h1) rfl rfl rfl rfl rfl ?_
  refine T_cond rfl (fun e => by cases e) (fun _ => ?_)
  refine T_auto TT_ok rfl ?_
  refine RJ_Q TT_ok (eqSetS_q _ h2) rfl rfl rfl rfl rfl ?_
  refine T_cond rfl (fun e => by cases e) (fun _ => ?_)
  refine T_auto TT_ok rfl ?_
  refine T_condN rfl (fun e => absurd rfl e) (fun _ => ?_)
  refine T_auto TT_ok rfl ?_
  exact T_ansB TT_ok [(4, none)] rfl rfl (rfl)
end
end Go.Proofs.YtpfcfepbhdkpdaaGreat
