/-
  Part F of what the claim leans on: memory, data, walks through the program, plain laws.
-/
import Derived.Test.YthpjoddhlkcciaaGreatMSE
namespace Go.Proofs.YthpjoddhlkcciaaGreat
open Go Go.RowKit
set_option linter.unusedVariables false
set_option linter.unusedSimpArgs false
set_option maxRecDepth 4000
abbrev agPlaceG (x : GPlace) (k1 : Nat) : SV := .ag [.g k1]
theorem szPlace_g (x : GPlace) (hb : D.bds maxL (cPlace x)) (l : Int) (h1 : 0 ≤ l) (h2 : l ≤ 1048576) : Ans Tryz.prog 74 [] [vR (cPlace x), vI l] [] (vI (szI l (wPlace x))) := by
  unfold wPlace
  refine con_enter Tryz.func74 rfl rfl rfl fun B0 r_ D_ w0 => ?_
  refine T_auto TT_ok rfl ?_
  refine RJ_Q TT_ok (szInt64S_q _ hb.1.1 _ h1 h2) rfl rfl rfl rfl rfl ?_
  refine T_condD rfl (fun e1 => ?_) (fun e1 => ?_)
  · refine T_auto TT_ok rfl ?_
    exact T_ansI TT_ok [(4, none)] rfl rfl (by exact (szI_mono e1 (by omega)).symm)
  have e1r := e1
  refine T_auto TT_ok rfl ?_
  exact T_ansI TT_ok [(4, none)] rfl rfl (rfl)
theorem toPlace_g (x : GPlace) (hb : D.bds bigN (cPlace x)) : Con Tryz.prog 81 [] [vR (cPlace x)] [] (fun _ : Unit => True) (fun _ => [agPlaceG x 901]) fun _ => [(901, arrC 1 cInt 0 x.machines)] := by
  refine con_enter Tryz.func81 rfl rfl rfl fun B0 r_ D_ w0 => ?_
  refine T_auto TT_ok rfl ?_
  refine RJ_C TT_ok (Con.sw 900 901 (toInt64S_m x.machines hb.1.1)) rfl rfl (SVs.imp_refl _) (fun _ => rfl) rfl rfl rfl fun _ _ => ?_
  refine RJ_auto TT_ok rfl ?_
  refine T_ret TT_ok (()) [(2, some 95)] rfl rfl ?_ ?_ ?_
  · exact SVs.imp_refl _
  · exact ⟨⟨_, rfl, Ch.imp_refl _⟩, trivial⟩
  · trivial
theorem eqPlace_g (x : GPlace) (hb : D.bds bigN (cPlace x)) : Ans Tryz.prog 98 [] [vR (cPlace x), vR (cPlace x)] [] (vB true) := by
  refine con_enter Tryz.func98 rfl rfl rfl fun B0 r_ D_ w0 => ?_
  refine T_auto TT_ok rfl ?_
  refine RJ_Q TT_ok (eqInt64S_q _ hb.1.1) rfl rfl rfl rfl rfl ?_
  refine T_cond rfl (fun e => by cases e) (fun _ => ?_)
  refine T_auto TT_ok rfl ?_
  exact T_ansB TT_ok [(4, none)] rfl rfl (rfl)
theorem szPlaceS_q (xs : List GPlace) (hb : D.bd maxL (dL 1 cPlace GPlace.z xs)) (l : Int) (h1 : 0 ≤ l) (h2 : l ≤ 1048576) : Ans Tryz.prog 36 [] [vL 1 cPlace GPlace.z xs, vI l] [] (vI (szI l (wL wPlace xs))) := by
  have hx : xs.length ≤ maxL := hb.1
  unfold maxL at hx
  unfold wL
  refine con_enter Tryz.func36 rfl rfl rfl fun B0 r_ D_ w0 => ?_
  refine T_auto TT_ok rfl ?_
  refine T_condD rfl (fun e => ?_) (fun e => ?_)
  · refine T_auto TT_ok rfl ?_
    exact T_ansI TT_ok [(4, none)] rfl rfl ((szI_mono (szI_no e) (Nat.le_add_right _ _)).symm)
  refine T_auto TT_ok rfl ?_
  refine T_loopA (ι := Nat) (fun i => [(5, vI i), (1, vI (l - xs.length - (sumW wPlace (xs.take i) : Nat)))]) (fun _ => []) (fun i => i ≤ xs.length ∧ 0 ≤ l - xs.length - (sumW wPlace (xs.take i) : Nat)) (fun i => xs.length - i) 0 [] [] rfl rfl ⟨Nat.zero_le _, by simp [sumW]; omega⟩ ⟨⟨_, rfl, SV.imp_refl _⟩, ⟨_, rfl, SV.imp_of (vI_eq (by simp [sumW]))⟩, trivial⟩ (by repeat (first | exact trivial | refine And.intro ⟨_, rfl, Ch.imp_refl _⟩ ?_)) ?_
  intro i ⟨h3, h4⟩
  refine T_auto TT_ok rfl ?_
  refine T_condD rfl (fun e2 => ?_) (fun e2 => ?_)
  · have hi : i < xs.length := by omega
    have hs := sumW_take (w := wPlace) (z := GPlace.z) hi
    have hs2 := sumW_take_le (w := wPlace) xs (i + 1)
    refine T_auto TT_ok rfl ?_
    refine RJ_Q TT_ok (szPlace_g _ (hb.2 i hi) _ h4 (by omega)) rfl rfl rfl rfl rfl ?_
    refine T_condD rfl (fun e3 => ?_) (fun e3 => ?_)
    · have h5 := szI_neg.1 e3
      refine T_auto TT_ok rfl ?_
      exact T_ansI TT_ok [(4, none)] rfl rfl ((szI_mono (szI_neg.2 (by omega)) (Nat.le_refl _)).symm)
    · have h5 := szI_in e3
      refine T_auto TT_ok rfl ?_
      exact X_inv (i + 1) ⟨hi, by omega⟩ (by omega) ⟨⟨_, rfl, SV.imp_refl _⟩, ⟨_, rfl, SV.imp_of (vI_eq (by omega))⟩, (by repeat (first | exact trivial | refine And.intro ⟨_, rfl, SV.imp_refl _⟩ ?_))⟩ (by repeat (first | exact trivial | refine And.intro ⟨_, rfl, Ch.imp_refl _⟩ ?_))
  · have hi : i = xs.length := by omega
    subst hi
    rw [List.take_length] at h4 ⊢
    refine T_auto TT_ok rfl ?_
    exact T_ansI TT_ok [(4, none)] rfl rfl (by rw [szI_yes (by omega)]; omega)
theorem eqPlaceS_q (xs : List GPlace) (hb : D.bd bigN (dL 1 cPlace GPlace.z xs)) : Ans Tryz.prog 45 [] [vL 1 cPlace GPlace.z xs, vL 1 cPlace GPlace.z xs] [] (vB true) := by
  have hl : xs.length ≤ 1048576 := hb.1
  refine con_enter Tryz.func45 rfl rfl rfl fun B0 r_ D_ w0 => ?_
  refine T_auto TT_ok rfl ?_
  refine T_condN rfl (fun e => absurd rfl e) (fun _ => ?_)
  refine T_auto TT_ok rfl ?_
  refine T_loopA (ι := Nat) (fun i => [(5, vI i)]) (fun _ => []) (fun i => i ≤ xs.length) (fun i => xs.length - i) 0 [] [] rfl rfl (Nat.zero_le _) (by repeat (first | exact trivial | refine And.intro ⟨_, rfl, SV.imp_refl _⟩ ?_)) (by repeat (first | exact trivial | refine And.intro ⟨_, rfl, Ch.imp_refl _⟩ ?_)) ?_
  intro i h1
  refine T_auto TT_ok rfl ?_
  refine T_condD rfl (fun e => ?_) (fun e => ?_)
  · have hi : i < xs.length := by omega
    refine T_auto TT_ok rfl ?_
    refine T_drawA TT_ok [] rfl rfl fun B0 H0 => ?_
    refine DJ_Q TT_ok (eqPlace_g _ (hb.2 i hi)) rfl rfl rfl rfl rfl rfl ?_
    refine DJ_endA TT_ok rfl ?_
    refine T_cond rfl (fun e => by cases e) (fun _ => ?_)
    refine T_auto TT_ok rfl ?_
    exact X_inv (i + 1) hi (by omega) (by repeat (first | exact trivial | refine And.intro ⟨_, rfl, SV.imp_refl _⟩ ?_)) (by repeat (first | exact trivial | refine And.intro ⟨_, rfl, Ch.imp_refl _⟩ ?_))
  · refine T_auto TT_ok rfl ?_
    exact T_ansB TT_ok [(4, none)] rfl rfl (rfl)
theorem toPlaceS_m (xs : List GPlace) (hb : D.bd bigN (dL 1 cPlace GPlace.z xs)) : MkL Tryz.prog 40 [vL 1 cPlace GPlace.z xs] 1 cPlace GPlace.z xs := by
  have hl : xs.length ≤ 1048576 := hb.1
  refine con_enter Tryz.func40 rfl rfl rfl fun B0 r_ D_ w0 => ?_
  refine T_auto TT_ok rfl ?_
  refine RJ_make TT_ok 7 xs.length rfl rfl rfl rfl rfl rfl rfl ⟨by simp; omega, by unfold maxL; omega⟩ ?_
  refine RJ_auto TT_ok rfl ?_
  refine T_loopA (ι := Nat) (fun i => [(4, vI i)]) (fun i => [(7, .arr 1 xs.length fun k => cPlace (if k < i then xs.getD k GPlace.z else GPlace.z))]) (fun i => i ≤ xs.length) (fun i => xs.length - i) 0 [7] [] rfl rfl (Nat.zero_le _) (by repeat (first | exact trivial | refine And.intro ⟨_, rfl, SV.imp_refl _⟩ ?_)) ⟨⟨_, rfl, Ch.imp_own rfl fun k hk => by rw [if_neg (Nat.not_lt_zero _)]; exact OwnI.n OwnI.e⟩, trivial⟩ ?_
  intro i h1
  refine T_auto TT_ok rfl ?_
  refine T_condD rfl (fun e => ?_) (fun e => ?_)
  · have hi : i < xs.length := by omega
    refine T_auto TT_ok rfl ?_
    refine RJ_C TT_ok (Con.sw 901 2901 (toPlace_g _ (hb.2 i hi))) rfl rfl (SVs.imp_refl _) (fun _ => rfl) rfl rfl rfl fun _ _ => ?_
    refine RJ_auto TT_ok rfl ?_
    refine RJ_view (V_carve 7 i 7000 (l := [.s .o 1 0 fun i => cInt (([] : List Int).getD i 0)]) rfl (by rw [if_neg (by omega : ¬ ((i : Int)).toNat < i)]; rfl) rfl rfl rfl rfl ⟨by omega, by omega⟩) ?_
    refine RJ_view (V_pe 21 rfl rfl rfl) ?_
    refine RJ_auto TT_ok rfl ?_
    refine X_view (V_fold 7000 0 2901 rfl rfl rfl rfl rfl rfl rfl) ?_
    refine X_view (V_uncarve 7 7000 rfl rfl rfl rfl rfl rfl rfl) ?_
    exact X_inv (i + 1) hi (by omega) (by repeat (first | exact trivial | refine And.intro ⟨_, rfl, SV.imp_refl _⟩ ?_)) ⟨⟨_, rfl, Ch.imp_arr fun k hk => fill_step (fun x => cPlace x) rfl⟩, (by repeat (first | exact trivial | refine And.intro ⟨_, rfl, Ch.imp_refl _⟩ ?_))⟩
  · have hi : i = xs.length := by omega
    subst hi
    refine T_auto TT_ok rfl ?_
    refine T_view (V_sw 7 900) ?_
    refine T_ret TT_ok (()) [(2, none)] rfl rfl ?_ ?_ ?_
    · exact SVs.imp_refl _
    · exact ⟨⟨_, rfl, Ch.imp_arr fun k hk => by rw [if_pos hk]⟩, trivial⟩
    · trivial
theorem mPlace_eq (x : GPlace) : mPlace x = 0+(x.machines.length) := by unfold mPlace; omega
theorem markPlaceS_w (xs : List GPlace) (hb : D.bd bigN (dL 1 cPlace GPlace.z xs)) (k0 : Int) (h1 : 0 ≤ k0) (h2 : k0 + (sumW mPlace xs : Nat) ≤ 1000000000000) : Con Tryz.prog 50 [900] [.a (.g 900), vI k0] [(900, arrC 1 cPlace GPlace.z xs)] (fun _ : Unit => True) (fun _ => [vI (k0 + (sumW mPlace xs : Nat))]) fun _ => [(900, arrC 1 cPlace GPlace.z (mkL mkPlace mPlace GPlace.z xs k0))] := by
  have hl : xs.length ≤ 1048576 := hb.1
  refine con_enter Tryz.func50 rfl rfl rfl fun B0 r_ D_ w0 => ?_
  refine T_auto TT_ok rfl ?_
  refine T_loopA (ι := Nat) (fun i => [(5, vI i), (1, vI (k0 + (sumW mPlace (xs.take i) : Nat)))]) (fun i => [(900, .arr 1 xs.length fun j => cPlace (if j < i then mkPlace (xs.getD j GPlace.z) (k0 + (sumW mPlace (xs.take j) : Nat)) else xs.getD j GPlace.z))]) (fun i => i ≤ xs.length) (fun i => xs.length - i) 0 [900] [] rfl rfl (Nat.zero_le _) ⟨⟨_, rfl, SV.imp_refl _⟩, ⟨_, rfl, SV.imp_of (vI_eq (by simp [sumW]))⟩, trivial⟩ ⟨⟨_, rfl, Ch.imp_arr fun k hk => by rw [if_neg (Nat.not_lt_zero _)]⟩, trivial⟩ ?_
  intro i h3
  refine T_auto TT_ok rfl ?_
  refine T_condD rfl (fun e => ?_) (fun e => ?_)
  · have hi : i < xs.length := by omega
    have hs := sumW_take (w := mPlace) (z := GPlace.z) hi
    have hs2 := sumW_take_le (w := mPlace) xs (i + 1)
    have hm := mPlace_eq (xs.getD i GPlace.z)
    have ht : sumW mPlace (xs.take ((i : Int)).toNat) = sumW mPlace (xs.take i) := rfl
    refine T_view (V_carve 900 i 7000 (l := [.s .o 1 (xs.getD i GPlace.z).machines.length fun j => cInt ((xs.getD i GPlace.z).machines.getD j 0)]) rfl (by rw [if_neg (by omega : ¬ ((i : Int)).toNat < i)]; rfl) rfl rfl rfl rfl ⟨by omega, by omega⟩) ?_
    refine T_view (V_open 7000 0 7001 rfl rfl rfl rfl rfl rfl) ?_
    refine T_auto TT_ok rfl ?_
    refine RJ_view (V_pe 15 rfl rfl rfl) ?_
    refine RJ_auto TT_ok rfl ?_
    refine RJ_C TT_ok (Con.sw 900 7001 (markInt64S_w (xs.getD i GPlace.z).machines (hb.2 i hi).1.1 _ (by omega) (by omega))) rfl rfl (SVs.imp_refl _) (fun _ => rfl) rfl rfl rfl fun _ _ => ?_
    refine RJ_auto TT_ok rfl ?_
    refine X_view (V_fold 7000 0 7001 rfl rfl rfl rfl rfl rfl rfl) ?_
    refine X_view (V_uncarve 900 7000 rfl rfl rfl rfl rfl rfl rfl) ?_
    exact X_inv (i + 1) hi (by omega) ⟨⟨_, rfl, SV.imp_refl _⟩, ⟨_, rfl, SV.imp_of (vI_eq (by omega))⟩, (by repeat (first | exact trivial | refine And.intro ⟨_, rfl, SV.imp_refl _⟩ ?_))⟩ ⟨⟨_, rfl, Ch.imp_arr fun k hk => fill_step2 (i := i) (k := k) (fun x => cPlace x) (fun j => mkPlace (xs.getD j GPlace.z) (k0 + (sumW mPlace (xs.take j) : Nat))) (o := fun j => xs.getD j GPlace.z) (by rfl)⟩, (by repeat (first | exact trivial | refine And.intro ⟨_, rfl, Ch.imp_refl _⟩ ?_))⟩
  · have hi : i = xs.length := by omega
    subst hi
    rw [List.take_length]
    refine T_auto TT_ok rfl ?_
    refine T_ret TT_ok (()) [(4, none)] rfl rfl ?_ ?_ ?_
    · exact SVs.imp_refl _
    · exact ⟨⟨_, rfl, Ch.imp_len (tab_length _ _).symm fun k hk => by rw [if_pos hk, mkL, tab_getD hk]⟩, trivial⟩
    · trivial
abbrev agRecordG (x : GRecord) (k1 : Nat) : SV := .ag [.v (.int .i64 x.kind), .v (.int .i64 x.tx), .v (.int .i64 x.region), .g k1]
theorem szRecord_g (x : GRecord) (hb : D.bds maxL (cRecord x)) (l : Int) (h1 : 0 ≤ l) (h2 : l ≤ 1048576) : Ans Tryz.prog 173 [] [vR (cRecord x), vI l] [] (vI (szI l (wRecord x))) := by
  unfold wRecord
  refine con_enter Tryz.func173 rfl rfl rfl fun B0 r_ D_ w0 => ?_
  refine T_auto TT_ok rfl ?_
  refine RJ_Q TT_ok (szSetS_q _ hb.2.2.2.1.1 _ h1 h2) rfl rfl rfl rfl rfl ?_
  refine T_condD rfl (fun e1 => ?_) (fun e1 => ?_)
  · refine T_auto TT_ok rfl ?_
    exact T_ansI TT_ok [(4, none)] rfl rfl (by exact (szI_mono e1 (by omega)).symm)
  have e1r := e1
  refine T_auto TT_ok rfl ?_
  exact T_ansI TT_ok [(4, none)] rfl rfl (rfl)
theorem toRecord_g (x : GRecord) (hb : D.bds bigN (cRecord x)) : Con Tryz.prog 175 [] [vR (cRecord x)] [] (fun _ : Unit => True) (fun _ => [agRecordG x 901]) fun _ => [(901, arrC 5 cSet GSet.z x.sets)] := by
  refine con_enter Tryz.func175 rfl rfl rfl fun B0 r_ D_ w0 => ?_
  refine T_auto TT_ok rfl ?_
  refine RJ_C TT_ok (Con.sw 900 901 (toSetS_m x.sets hb.2.2.2.1.1)) rfl rfl (SVs.imp_refl _) (fun _ => rfl) rfl rfl rfl fun _ _ => ?_
  refine RJ_auto TT_ok rfl ?_
  refine T_ret TT_ok (()) [(2, some 165)] rfl rfl ?_ ?_ ?_
  · exact SVs.imp_refl _
  · exact ⟨⟨_, rfl, Ch.imp_refl _⟩, trivial⟩
  · trivial
theorem eqRecord_g (x : GRecord) (hb : D.bds bigN (cRecord x)) : Ans Tryz.prog 190 [] [vR (cRecord x), vR (cRecord x)] [] (vB true) := by
  refine con_enter Tryz.func190 rfl rfl rfl fun B0 r_ D_ w0 => ?_
  refine T_auto TT_ok rfl ?_
  refine T_condN rfl (fun e => absurd rfl e) (fun _ => ?_)
  refine T_auto TT_ok rfl ?_
  refine T_condN rfl (fun e => absurd rfl e) (fun _ => ?_)
  refine T_auto TT_ok rfl ?_
  refine T_condN rfl (fun e => absurd rfl e) (fun _ => ?_)
  refine T_auto TT_ok rfl ?_
  refine RJ_Q TT_ok (eqSetS_q _ hb.2.2.2.1.1) rfl rfl rfl rfl rfl ?_
  refine T_cond rfl (fun e => by cases e) (fun _ => ?_)
  refine T_auto TT_ok rfl ?_
  exact T_ansB TT_ok [(4, none)] rfl rfl (rfl)
theorem szRecordS_q (xs : List GRecord) (hb : D.bd maxL (dL 4 cRecord GRecord.z xs)) (l : Int) (h1 : 0 ≤ l) (h2 : l ≤ 1048576) : Ans Tryz.prog 127 [] [vL 4 cRecord GRecord.z xs, vI l] [] (vI (szI l (wL wRecord xs))) := by
  have hx : xs.length ≤ maxL := hb.1
  unfold maxL at hx
  unfold wL
  refine con_enter Tryz.func127 rfl rfl rfl fun B0 r_ D_ w0 => ?_
  refine T_auto TT_ok rfl ?_
  refine T_condD rfl (fun e => ?_) (fun e => ?_)
  · refine T_auto TT_ok rfl ?_
    exact T_ansI TT_ok [(4, none)] rfl rfl ((szI_mono (szI_no e) (Nat.le_add_right _ _)).symm)
  refine T_auto TT_ok rfl ?_
  refine T_loopA (ι := Nat) (fun i => [(5, vI i), (1, vI (l - xs.length - (sumW wRecord (xs.take i) : Nat)))]) (fun _ => []) (fun i => i ≤ xs.length ∧ 0 ≤ l - xs.length - (sumW wRecord (xs.take i) : Nat)) (fun i => xs.length - i) 0 [] [] rfl rfl ⟨Nat.zero_le _, by simp [sumW]; omega⟩ ⟨⟨_, rfl, SV.imp_refl _⟩, ⟨_, rfl, SV.imp_of (vI_eq (by simp [sumW]))⟩, trivial⟩ (by repeat (first | exact trivial | refine And.intro ⟨_, rfl, Ch.imp_refl _⟩ ?_)) ?_
  intro i ⟨h3, h4⟩
  refine T_auto TT_ok rfl ?_
  refine T_condD rfl (fun e2 => ?_) (fun e2 => ?_)
  · have hi : i < xs.length := by omega
    have hs := sumW_take (w := wRecord) (z := GRecord.z) hi
    have hs2 := sumW_take_le (w := wRecord) xs (i + 1)
    refine T_auto TT_ok rfl ?_
    refine RJ_Q TT_ok (szRecord_g _ (hb.2 i hi) _ h4 (by omega)) rfl rfl rfl rfl rfl ?_
    refine T_condD rfl (fun e3 => ?_) (fun e3 => ?_)
    · have h5 := szI_neg.1 e3
      refine T_auto TT_ok rfl ?_
      exact T_ansI TT_ok [(4, none)] rfl rfl ((szI_mono (szI_neg.2 (by omega)) (Nat.le_refl _)).symm)
    · have h5 := szI_in e3
      refine T_auto TT_ok rfl ?_
      exact X_inv (i + 1) ⟨hi, by omega⟩ (by omega) ⟨⟨_, rfl, SV.imp_refl _⟩, ⟨_, rfl, SV.imp_of (vI_eq (by omega))⟩, (by repeat (first | exact trivial | refine And.intro ⟨_, rfl, SV.imp_refl _⟩ ?_))⟩ (by repeat (first | exact trivial | refine And.intro ⟨_, rfl, Ch.imp_refl _⟩ ?_))
  · have hi : i = xs.length := by omega
    subst hi
    rw [List.take_length] at h4 ⊢
    refine T_auto TT_ok rfl ?_
    exact T_ansI TT_ok [(4, none)] rfl rfl (by rw [szI_yes (by omega)]; omega)
theorem eqRecordS_q (xs : List GRecord) (hb : D.bd bigN (dL 4 cRecord GRecord.z xs)) : Ans Tryz.prog 153 [] [vL 4 cRecord GRecord.z xs, vL 4 cRecord GRecord.z xs] [] (vB true) := by
  have hl : xs.length ≤ 1048576 := hb.1
  refine con_enter Tryz.func153 rfl rfl rfl fun B0 r_ D_ w0 => ?_
  refine T_auto TT_ok rfl ?_
  refine T_condN rfl (fun e => absurd rfl e) (fun _ => ?_)
  refine T_auto TT_ok rfl ?_
  refine T_loopA (ι := Nat) (fun i => [(5, vI i)]) (fun _ => []) (fun i => i ≤ xs.length) (fun i => xs.length - i) 0 [] [] rfl rfl (Nat.zero_le _) (by repeat (first | exact trivial | refine And.intro ⟨_, rfl, SV.imp_refl _⟩ ?_)) (by repeat (first | exact trivial | refine And.intro ⟨_, rfl, Ch.imp_refl _⟩ ?_)) ?_
  intro i h1
  refine T_auto TT_ok rfl ?_
  refine T_condD rfl (fun e => ?_) (fun e => ?_)
  · have hi : i < xs.length := by omega
    refine T_auto TT_ok rfl ?_
    refine T_drawA TT_ok [] rfl rfl fun B0 H0 => ?_
    refine DJ_Q TT_ok (eqRecord_g _ (hb.2 i hi)) rfl rfl rfl rfl rfl rfl ?_
    refine DJ_endA TT_ok rfl ?_
    refine T_cond rfl (fun e => by cases e) (fun _ => ?_)
    refine T_auto TT_ok rfl ?_
    exact X_inv (i + 1) hi (by omega) (by repeat (first | exact trivial | refine And.intro ⟨_, rfl, SV.imp_refl _⟩ ?_)) (by repeat (first | exact trivial | refine And.intro ⟨_, rfl, Ch.imp_refl _⟩ ?_))
  · refine T_auto TT_ok rfl ?_
    exact T_ansB TT_ok [(4, none)] rfl rfl (rfl)
theorem toRecordS_m (xs : List GRecord) (hb : D.bd bigN (dL 4 cRecord GRecord.z xs)) : MkL Tryz.prog 133 [vL 4 cRecord GRecord.z xs] 4 cRecord GRecord.z xs := by
  have hl : xs.length ≤ 1048576 := hb.1
  refine con_enter Tryz.func133 rfl rfl rfl fun B0 r_ D_ w0 => ?_
  refine T_auto TT_ok rfl ?_
  refine RJ_make TT_ok 7 xs.length rfl rfl rfl rfl rfl rfl rfl ⟨by simp; omega, by unfold maxL; omega⟩ ?_
  refine RJ_auto TT_ok rfl ?_
  refine T_loopA (ι := Nat) (fun i => [(4, vI i)]) (fun i => [(7, .arr 4 xs.length fun k => cRecord (if k < i then xs.getD k GRecord.z else GRecord.z))]) (fun i => i ≤ xs.length) (fun i => xs.length - i) 0 [7] [] rfl rfl (Nat.zero_le _) (by repeat (first | exact trivial | refine And.intro ⟨_, rfl, SV.imp_refl _⟩ ?_)) ⟨⟨_, rfl, Ch.imp_own rfl fun k hk => by rw [if_neg (Nat.not_lt_zero _)]; exact OwnI.c (OwnI.c (OwnI.c (OwnI.n OwnI.e)))⟩, trivial⟩ ?_
  intro i h1
  refine T_auto TT_ok rfl ?_
  refine T_condD rfl (fun e => ?_) (fun e => ?_)
  · have hi : i < xs.length := by omega
    refine T_auto TT_ok rfl ?_
    refine RJ_C TT_ok (Con.sw 901 2901 (toRecord_g _ (hb.2 i hi))) rfl rfl (SVs.imp_refl _) (fun _ => rfl) rfl rfl rfl fun _ _ => ?_
    refine RJ_auto TT_ok rfl ?_
    refine RJ_view (V_carve 7 i 7000 (l := [.v (.int .i64 0), .v (.int .i64 0), .v (.int .i64 0), .s .o 5 0 fun i => cSet (([] : List GSet).getD i GSet.z)]) rfl (by rw [if_neg (by omega : ¬ ((i : Int)).toNat < i)]; rfl) rfl rfl rfl rfl ⟨by omega, by omega⟩) ?_
    refine RJ_view (V_pe 21 rfl rfl rfl) ?_
    refine RJ_auto TT_ok rfl ?_
    refine X_view (V_fold 7000 3 2901 rfl rfl rfl rfl rfl rfl rfl) ?_
    refine X_view (V_uncarve 7 7000 rfl rfl rfl rfl rfl rfl rfl) ?_
    exact X_inv (i + 1) hi (by omega) (by repeat (first | exact trivial | refine And.intro ⟨_, rfl, SV.imp_refl _⟩ ?_)) ⟨⟨_, rfl, Ch.imp_arr fun k hk => fill_step (fun x => cRecord x) rfl⟩, (by repeat (first | exact trivial | refine And.intro ⟨_, rfl, Ch.imp_refl _⟩ ?_))⟩
  · have hi : i = xs.length := by omega
    subst hi
    refine T_auto TT_ok rfl ?_
    refine T_view (V_sw 7 900) ?_
    refine T_ret TT_ok (()) [(2, none)] rfl rfl ?_ ?_ ?_
    · exact SVs.imp_refl _
    · exact ⟨⟨_, rfl, Ch.imp_arr fun k hk => by rw [if_pos hk]⟩, trivial⟩
    · trivial
theorem mRecord_eq (x : GRecord) : mRecord x = 0+1+1+1+(5 * x.sets.length) := by unfold mRecord; omega
theorem markRecordS_w (xs : List GRecord) (hb : D.bd bigN (dL 4 cRecord GRecord.z xs)) (k0 : Int) (h1 : 0 ≤ k0) (h2 : k0 + (sumW mRecord xs : Nat) ≤ 1000000000000) : Con Tryz.prog 106 [900] [.a (.g 900), vI k0] [(900, arrC 4 cRecord GRecord.z xs)] (fun _ : Unit => True) (fun _ => [vI (k0 + (sumW mRecord xs : Nat))]) fun _ => [(900, arrC 4 cRecord GRecord.z (mkL mkRecord mRecord GRecord.z xs k0))] := by
  have hl : xs.length ≤ 1048576 := hb.1
  refine con_enter Tryz.func106 rfl rfl rfl fun B0 r_ D_ w0 => ?_
  refine T_auto TT_ok rfl ?_
  refine T_loopA (ι := Nat) (fun i => [(5, vI i), (1, vI (k0 + (sumW mRecord (xs.take i) : Nat)))]) (fun i => [(900, .arr 4 xs.length fun j => cRecord (if j < i then mkRecord (xs.getD j GRecord.z) (k0 + (sumW mRecord (xs.take j) : Nat)) else xs.getD j GRecord.z))]) (fun i => i ≤ xs.length) (fun i => xs.length - i) 0 [900] [] rfl rfl (Nat.zero_le _) ⟨⟨_, rfl, SV.imp_refl _⟩, ⟨_, rfl, SV.imp_of (vI_eq (by simp [sumW]))⟩, trivial⟩ ⟨⟨_, rfl, Ch.imp_arr fun k hk => by rw [if_neg (Nat.not_lt_zero _)]⟩, trivial⟩ ?_
  intro i h3
  refine T_auto TT_ok rfl ?_
  refine T_condD rfl (fun e => ?_) (fun e => ?_)
  · have hi : i < xs.length := by omega
    have hs := sumW_take (w := mRecord) (z := GRecord.z) hi
    have hs2 := sumW_take_le (w := mRecord) xs (i + 1)
    have hm := mRecord_eq (xs.getD i GRecord.z)
    have ht : sumW mRecord (xs.take ((i : Int)).toNat) = sumW mRecord (xs.take i) := rfl
    refine T_view (V_carve 900 i 7000 (l := [.v (.int .i64 (xs.getD i GRecord.z).kind), .v (.int .i64 (xs.getD i GRecord.z).tx), .v (.int .i64 (xs.getD i GRecord.z).region), .s .o 5 (xs.getD i GRecord.z).sets.length fun j => cSet ((xs.getD i GRecord.z).sets.getD j GSet.z)]) rfl (by rw [if_neg (by omega : ¬ ((i : Int)).toNat < i)]; rfl) rfl rfl rfl rfl ⟨by omega, by omega⟩) ?_
    refine T_view (V_open 7000 3 7001 rfl rfl rfl rfl rfl rfl) ?_
    refine T_auto TT_ok rfl ?_
    refine RJ_view (V_pe 16 rfl rfl rfl) ?_
    refine RJ_auto TT_ok rfl ?_
    refine RJ_view (V_pe 23 rfl rfl rfl) ?_
    refine RJ_auto TT_ok rfl ?_
    refine RJ_view (V_pe 30 rfl rfl rfl) ?_
    refine RJ_auto TT_ok rfl ?_
    refine RJ_view (V_pe 36 rfl rfl rfl) ?_
    refine RJ_auto TT_ok rfl ?_
    refine RJ_C TT_ok (Con.sw 900 7001 (markSetS_w (xs.getD i GRecord.z).sets (hb.2 i hi).2.2.2.1.1 _ (by omega) (by omega))) rfl rfl (SVs.imp_refl _) (fun _ => rfl) rfl rfl rfl fun _ _ => ?_
    refine RJ_auto TT_ok rfl ?_
    refine X_view (V_fold 7000 3 7001 rfl rfl rfl rfl rfl rfl rfl) ?_
    refine X_view (V_uncarve 900 7000 rfl rfl rfl rfl rfl rfl rfl) ?_
    exact X_inv (i + 1) hi (by omega) ⟨⟨_, rfl, SV.imp_refl _⟩, ⟨_, rfl, SV.imp_of (vI_eq (by omega))⟩, (by repeat (first | exact trivial | refine And.intro ⟨_, rfl, SV.imp_refl _⟩ ?_))⟩ ⟨⟨_, rfl, Ch.imp_arr fun k hk => fill_step2 (i := i) (k := k) (fun x => cRecord x) (fun j => mkRecord (xs.getD j GRecord.z) (k0 + (sumW mRecord (xs.take j) : Nat))) (o := fun j => xs.getD j GRecord.z) (by rfl)⟩, (by repeat (first | exact trivial | refine And.intro ⟨_, rfl, Ch.imp_refl _⟩ ?_))⟩
  · have hi : i = xs.length := by omega
    subst hi
    rw [List.take_length]
    refine T_auto TT_ok rfl ?_
    refine T_ret TT_ok (()) [(4, none)] rfl rfl ?_ ?_ ?_
    · exact SVs.imp_refl _
    · exact ⟨⟨_, rfl, Ch.imp_len (tab_length _ _).symm fun k hk => by rw [if_pos hk, mkL, tab_getD hk]⟩, trivial⟩
    · trivial
abbrev agCopyG (x : GCopy) (k1 : Nat) : SV := .ag [.v (.int .i64 x.region), .g k1]
theorem szCopy_g (x : GCopy) (hb : D.bds maxL (cCopy x)) (l : Int) (h1 : 0 ≤ l) (h2 : l ≤ 1048576) : Ans Tryz.prog 172 [] [vR (cCopy x), vI l] [] (vI (szI l (wCopy x))) := by
  unfold wCopy
  refine con_enter Tryz.func172 rfl rfl rfl fun B0 r_ D_ w0 => ?_
  refine T_auto TT_ok rfl ?_
  refine RJ_Q TT_ok (szCellS_q _ hb.2.1.1 _ h1 h2) rfl rfl rfl rfl rfl ?_
  refine T_condD rfl (fun e1 => ?_) (fun e1 => ?_)
  · refine T_auto TT_ok rfl ?_
    exact T_ansI TT_ok [(4, none)] rfl rfl (by exact (szI_mono e1 (by omega)).symm)
  have e1r := e1
  refine T_auto TT_ok rfl ?_
  exact T_ansI TT_ok [(4, none)] rfl rfl (rfl)
theorem toCopy_g (x : GCopy) (hb : D.bds bigN (cCopy x)) : Con Tryz.prog 174 [] [vR (cCopy x)] [] (fun _ : Unit => True) (fun _ => [agCopyG x 901]) fun _ => [(901, arrC 2 cCell GCell.z x.cells)] := by
  refine con_enter Tryz.func174 rfl rfl rfl fun B0 r_ D_ w0 => ?_
  refine T_auto TT_ok rfl ?_
  refine RJ_C TT_ok (Con.sw 900 901 (toCellS_m x.cells hb.2.1.1)) rfl rfl (SVs.imp_refl _) (fun _ => rfl) rfl rfl rfl fun _ _ => ?_
  refine RJ_auto TT_ok rfl ?_
  refine T_ret TT_ok (()) [(2, some 81)] rfl rfl ?_ ?_ ?_
  · exact SVs.imp_refl _
  · exact ⟨⟨_, rfl, Ch.imp_refl _⟩, trivial⟩
  · trivial
theorem eqCopy_g (x : GCopy) (hb : D.bds bigN (cCopy x)) : Ans Tryz.prog 189 [] [vR (cCopy x), vR (cCopy x)] [] (vB true) := by
  refine con_enter Tryz.func189 rfl rfl rfl fun B0 r_ D_ w0 => ?_
  refine T_auto TT_ok rfl ?_
  refine T_condN rfl (fun e => absurd rfl e) (fun _ => ?_)
  refine T_auto TT_ok rfl ?_
  refine RJ_Q TT_ok (eqCellS_q _ hb.2.1.1) rfl rfl rfl rfl rfl ?_
  refine T_cond rfl (fun e => by cases e) (fun _ => ?_)
  refine T_auto TT_ok rfl ?_
  exact T_ansB TT_ok [(4, none)] rfl rfl (rfl)
theorem szCopyS_q (xs : List GCopy) (hb : D.bd maxL (dL 2 cCopy GCopy.z xs)) (l : Int) (h1 : 0 ≤ l) (h2 : l ≤ 1048576) : Ans Tryz.prog 126 [] [vL 2 cCopy GCopy.z xs, vI l] [] (vI (szI l (wL wCopy xs))) := by
  have hx : xs.length ≤ maxL := hb.1
  unfold maxL at hx
  unfold wL
  refine con_enter Tryz.func126 rfl rfl rfl fun B0 r_ D_ w0 => ?_
  refine T_auto TT_ok rfl ?_
  refine T_condD rfl (fun e => ?_) (fun e => ?_)
  · refine T_auto TT_ok rfl ?_
    exact T_ansI TT_ok [(4, none)] rfl rfl ((szI_mono (szI_no e) (Nat.le_add_right _ _)).symm)
  refine T_auto TT_ok rfl ?_
  refine T_loopA (ι := Nat) (fun i => [(5, vI i), (1, vI (l - xs.length - (sumW wCopy (xs.take i) : Nat)))]) (fun _ => []) (fun i => i ≤ xs.length ∧ 0 ≤ l - xs.length - (sumW wCopy (xs.take i) : Nat)) (fun i => xs.length - i) 0 [] [] rfl rfl ⟨Nat.zero_le _, by simp [sumW]; omega⟩ ⟨⟨_, rfl, SV.imp_refl _⟩, ⟨_, rfl, SV.imp_of (vI_eq (by simp [sumW]))⟩, trivial⟩ (by repeat (first | exact trivial | refine And.intro ⟨_, rfl, Ch.imp_refl _⟩ ?_)) ?_
  intro i ⟨h3, h4⟩
  refine T_auto TT_ok rfl ?_
  refine T_condD rfl (fun e2 => ?_) (fun e2 => ?_)
  · have hi : i < xs.length := by omega
    have hs := sumW_take (w := wCopy) (z := GCopy.z) hi
    have hs2 := sumW_take_le (w := wCopy) xs (i + 1)
    refine T_auto TT_ok rfl ?_
    refine RJ_Q TT_ok (szCopy_g _ (hb.2 i hi) _ h4 (by omega)) rfl rfl rfl rfl rfl ?_
    refine T_condD rfl (fun e3 => ?_) (fun e3 => ?_)
    · have h5 := szI_neg.1 e3
      refine T_auto TT_ok rfl ?_
      exact T_ansI TT_ok [(4, none)] rfl rfl ((szI_mono (szI_neg.2 (by omega)) (Nat.le_refl _)).symm)
    · have h5 := szI_in e3
      refine T_auto TT_ok rfl ?_
      exact X_inv (i + 1) ⟨hi, by omega⟩ (by omega) ⟨⟨_, rfl, SV.imp_refl _⟩, ⟨_, rfl, SV.imp_of (vI_eq (by omega))⟩, (by repeat (first | exact trivial | refine And.intro ⟨_, rfl, SV.imp_refl _⟩ ?_))⟩ (by repeat (first | exact trivial | refine And.intro ⟨_, rfl, Ch.imp_refl _⟩ ?_))
  · have hi : i = xs.length := by omega
    subst hi
    rw [List.take_length] at h4 ⊢
    refine T_auto TT_ok rfl ?_
    exact T_ansI TT_ok [(4, none)] rfl rfl (by rw [szI_yes (by omega)]; omega)
theorem eqCopyS_q (xs : List GCopy) (hb : D.bd bigN (dL 2 cCopy GCopy.z xs)) : Ans Tryz.prog 152 [] [vL 2 cCopy GCopy.z xs, vL 2 cCopy GCopy.z xs] [] (vB true) := by
  have hl : xs.length ≤ 1048576 := hb.1
  refine con_enter Tryz.func152 rfl rfl rfl fun B0 r_ D_ w0 => ?_
  refine T_auto TT_ok rfl ?_
  refine T_condN rfl (fun e => absurd rfl e) (fun _ => ?_)
  refine T_auto TT_ok rfl ?_
  refine T_loopA (ι := Nat) (fun i => [(5, vI i)]) (fun _ => []) (fun i => i ≤ xs.length) (fun i => xs.length - i) 0 [] [] rfl rfl (Nat.zero_le _) (by repeat (first | exact trivial | refine And.intro ⟨_, rfl, SV.imp_refl _⟩ ?_)) (by repeat (first | exact trivial | refine And.intro ⟨_, rfl, Ch.imp_refl _⟩ ?_)) ?_
  intro i h1
  refine T_auto TT_ok rfl ?_
  refine T_condD rfl (fun e => ?_) (fun e => ?_)
  · have hi : i < xs.length := by omega
    refine T_auto TT_ok rfl ?_
    refine T_drawA TT_ok [] rfl rfl fun B0 H0 => ?_
    refine DJ_Q TT_ok (eqCopy_g _ (hb.2 i hi)) rfl rfl rfl rfl rfl rfl ?_
    refine DJ_endA TT_ok rfl ?_
    refine T_cond rfl (fun e => by cases e) (fun _ => ?_)
    refine T_auto TT_ok rfl ?_
    exact X_inv (i + 1) hi (by omega) (by repeat (first | exact trivial | refine And.intro ⟨_, rfl, SV.imp_refl _⟩ ?_)) (by repeat (first | exact trivial | refine And.intro ⟨_, rfl, Ch.imp_refl _⟩ ?_))
  · refine T_auto TT_ok rfl ?_
    exact T_ansB TT_ok [(4, none)] rfl rfl (rfl)
theorem toCopyS_m (xs : List GCopy) (hb : D.bd bigN (dL 2 cCopy GCopy.z xs)) : MkL Tryz.prog 132 [vL 2 cCopy GCopy.z xs] 2 cCopy GCopy.z xs := by
  have hl : xs.length ≤ 1048576 := hb.1
  refine con_enter Tryz.func132 rfl rfl rfl fun B0 r_ D_ w0 => ?_
  refine T_auto TT_ok rfl ?_
  refine RJ_make TT_ok 7 xs.length rfl rfl rfl rfl rfl rfl rfl ⟨by simp; omega, by unfold maxL; omega⟩ ?_
  refine RJ_auto TT_ok rfl ?_
  refine T_loopA (ι := Nat) (fun i => [(4, vI i)]) (fun i => [(7, .arr 2 xs.length fun k => cCopy (if k < i then xs.getD k GCopy.z else GCopy.z))]) (fun i => i ≤ xs.length) (fun i => xs.length - i) 0 [7] [] rfl rfl (Nat.zero_le _) (by repeat (first | exact trivial | refine And.intro ⟨_, rfl, SV.imp_refl _⟩ ?_)) ⟨⟨_, rfl, Ch.imp_own rfl fun k hk => by rw [if_neg (Nat.not_lt_zero _)]; exact OwnI.c (OwnI.n OwnI.e)⟩, trivial⟩ ?_
  intro i h1
  refine T_auto TT_ok rfl ?_
  refine T_condD rfl (fun e => ?_) (fun e => ?_)
  · have hi : i < xs.length := by omega
    refine T_auto TT_ok rfl ?_
    refine RJ_C TT_ok (Con.sw 901 2901 (toCopy_g _ (hb.2 i hi))) rfl rfl (SVs.imp_refl _) (fun _ => rfl) rfl rfl rfl fun _ _ => ?_
    refine RJ_auto TT_ok rfl ?_
    refine RJ_view (V_carve 7 i 7000 (l := [.v (.int .i64 0), .s .o 2 0 fun i => cCell (([] : List GCell).getD i GCell.z)]) rfl (by rw [if_neg (by omega : ¬ ((i : Int)).toNat < i)]; rfl) rfl rfl rfl rfl ⟨by omega, by omega⟩) ?_
    refine RJ_view (V_pe 21 rfl rfl rfl) ?_
    refine RJ_auto TT_ok rfl ?_
    refine X_view (V_fold 7000 1 2901 rfl rfl rfl rfl rfl rfl rfl) ?_
    refine X_view (V_uncarve 7 7000 rfl rfl rfl rfl rfl rfl rfl) ?_
    exact X_inv (i + 1) hi (by omega) (by repeat (first | exact trivial | refine And.intro ⟨_, rfl, SV.imp_refl _⟩ ?_)) ⟨⟨_, rfl, Ch.imp_arr fun k hk => fill_step (fun x => cCopy x) rfl⟩, (by repeat (first | exact trivial | refine And.intro ⟨_, rfl, Ch.imp_refl _⟩ ?_))⟩
  · have hi : i = xs.length := by omega
    subst hi
    refine T_auto TT_ok rfl ?_
    refine T_view (V_sw 7 900) ?_
    refine T_ret TT_ok (()) [(2, none)] rfl rfl ?_ ?_ ?_
    · exact SVs.imp_refl _
    · exact ⟨⟨_, rfl, Ch.imp_arr fun k hk => by rw [if_pos hk]⟩, trivial⟩
    · trivial
theorem mCopy_eq (x : GCopy) : mCopy x = 0+1+(2 * x.cells.length) := by unfold mCopy; omega
theorem markCopyS_w (xs : List GCopy) (hb : D.bd bigN (dL 2 cCopy GCopy.z xs)) (k0 : Int) (h1 : 0 ≤ k0) (h2 : k0 + (sumW mCopy xs : Nat) ≤ 1000000000000) : Con Tryz.prog 105 [900] [.a (.g 900), vI k0] [(900, arrC 2 cCopy GCopy.z xs)] (fun _ : Unit => True) (fun _ => [vI (k0 + (sumW mCopy xs : Nat))]) fun _ => [(900, arrC 2 cCopy GCopy.z (mkL mkCopy mCopy GCopy.z xs k0))] := by
  have hl : xs.length ≤ 1048576 := hb.1
  refine con_enter Tryz.func105 rfl rfl rfl fun B0 r_ D_ w0 => ?_
  refine T_auto TT_ok rfl ?_
  refine T_loopA (ι := Nat) (fun i => [(5, vI i), (1, vI (k0 + (sumW mCopy (xs.take i) : Nat)))]) (fun i => [(900, .arr 2 xs.length fun j => cCopy (if j < i then mkCopy (xs.getD j GCopy.z) (k0 + (sumW mCopy (xs.take j) : Nat)) else xs.getD j GCopy.z))]) (fun i => i ≤ xs.length) (fun i => xs.length - i) 0 [900] [] rfl rfl (Nat.zero_le _) ⟨⟨_, rfl, SV.imp_refl _⟩, ⟨_, rfl, SV.imp_of (vI_eq (by simp [sumW]))⟩, trivial⟩ ⟨⟨_, rfl, Ch.imp_arr fun k hk => by rw [if_neg (Nat.not_lt_zero _)]⟩, trivial⟩ ?_
  intro i h3
  refine T_auto TT_ok rfl ?_
  refine T_condD rfl (fun e => ?_) (fun e => ?_)
  · have hi : i < xs.length := by omega
    have hs := sumW_take (w := mCopy) (z := GCopy.z) hi
    have hs2 := sumW_take_le (w := mCopy) xs (i + 1)
    have hm := mCopy_eq (xs.getD i GCopy.z)
    have ht : sumW mCopy (xs.take ((i : Int)).toNat) = sumW mCopy (xs.take i) := rfl
    refine T_view (V_carve 900 i 7000 (l := [.v (.int .i64 (xs.getD i GCopy.z).region), .s .o 2 (xs.getD i GCopy.z).cells.length fun j => cCell ((xs.getD i GCopy.z).cells.getD j GCell.z)]) rfl (by rw [if_neg (by omega : ¬ ((i : Int)).toNat < i)]; rfl) rfl rfl rfl rfl ⟨by omega, by omega⟩) ?_
    refine T_view (V_open 7000 1 7001 rfl rfl rfl rfl rfl rfl) ?_
    refine T_auto TT_ok rfl ?_
    refine RJ_view (V_pe 16 rfl rfl rfl) ?_
    refine RJ_auto TT_ok rfl ?_
    refine RJ_view (V_pe 22 rfl rfl rfl) ?_
    refine RJ_auto TT_ok rfl ?_
    refine RJ_C TT_ok (Con.sw 900 7001 (markCellS_w (xs.getD i GCopy.z).cells (hb.2 i hi).2.1.1 _ (by omega) (by omega))) rfl rfl (SVs.imp_refl _) (fun _ => rfl) rfl rfl rfl fun _ _ => ?_
    refine RJ_auto TT_ok rfl ?_
    refine X_view (V_fold 7000 1 7001 rfl rfl rfl rfl rfl rfl rfl) ?_
    refine X_view (V_uncarve 900 7000 rfl rfl rfl rfl rfl rfl rfl) ?_
    exact X_inv (i + 1) hi (by omega) ⟨⟨_, rfl, SV.imp_refl _⟩, ⟨_, rfl, SV.imp_of (vI_eq (by omega))⟩, (by repeat (first | exact trivial | refine And.intro ⟨_, rfl, SV.imp_refl _⟩ ?_))⟩ ⟨⟨_, rfl, Ch.imp_arr fun k hk => fill_step2 (i := i) (k := k) (fun x => cCopy x) (fun j => mkCopy (xs.getD j GCopy.z) (k0 + (sumW mCopy (xs.take j) : Nat))) (o := fun j => xs.getD j GCopy.z) (by rfl)⟩, (by repeat (first | exact trivial | refine And.intro ⟨_, rfl, Ch.imp_refl _⟩ ?_))⟩
  · have hi : i = xs.length := by omega
    subst hi
    rw [List.take_length]
    refine T_auto TT_ok rfl ?_
    refine T_ret TT_ok (()) [(4, none)] rfl rfl ?_ ?_ ?_
    · exact SVs.imp_refl _
    · exact ⟨⟨_, rfl, Ch.imp_len (tab_length _ _).symm fun k hk => by rw [if_pos hk, mkL, tab_getD hk]⟩, trivial⟩
    · trivial
abbrev agMachineG (x : GMachine) (k1 k2 k3 : Nat) : SV := .ag [.v (.bool x.alive), .g k1, .g k2, .g k3]
theorem szMachine_g (x : GMachine) (hb : D.bds maxL (cMachine x)) (l : Int) (h1 : 0 ≤ l) (h2 : l ≤ 1048576) : Ans Tryz.prog 75 [] [vR (cMachine x), vI l] [] (vI (szI l (wMachine x))) := by
  unfold wMachine
  refine con_enter Tryz.func75 rfl rfl rfl fun B0 r_ D_ w0 => ?_
  refine T_auto TT_ok rfl ?_
  refine RJ_Q TT_ok (szCopyS_q _ hb.2.1 _ h1 h2) rfl rfl rfl rfl rfl ?_
  refine T_condD rfl (fun e1 => ?_) (fun e1 => ?_)
  · refine T_auto TT_ok rfl ?_
    exact T_ansI TT_ok [(4, none)] rfl rfl (by exact (szI_mono e1 (by omega)).symm)
  have e1r := e1
  refine T_auto TT_ok rfl ?_
  refine RJ_Q TT_ok (szRecordS_q _ hb.2.2.1 _ (szI_in e1).1 (Int.le_trans (szI_in e1).2.1 h2)) rfl rfl rfl rfl rfl ?_
  refine T_condD rfl (fun e2 => ?_) (fun e2 => ?_)
  · refine T_auto TT_ok rfl ?_
    exact T_ansI TT_ok [(4, none)] rfl rfl (by rw [szI_ge e1r] at e2; exact (szI_mono e2 (by omega)).symm)
  have e2r := e2
  rw [szI_ge e1r] at e2r
  refine T_auto TT_ok rfl ?_
  refine RJ_Q TT_ok (szInt64S_q _ hb.2.2.2.1.1 _ (szI_in e2).1 (Int.le_trans (szI_in e2).2.1 (Int.le_trans (szI_in e1).2.1 h2))) rfl rfl rfl rfl rfl ?_
  refine T_condD rfl (fun e3 => ?_) (fun e3 => ?_)
  · refine T_auto TT_ok rfl ?_
    exact T_ansI TT_ok [(4, none)] rfl rfl (by rw [szI_ge e1r, szI_ge e2r] at e3; exact (szI_mono e3 (by omega)).symm)
  have e3r := e3
  rw [szI_ge e1r, szI_ge e2r] at e3r
  refine T_auto TT_ok rfl ?_
  exact T_ansI TT_ok [(4, none)] rfl rfl (by rw [szI_ge e1r, szI_ge e2r])
theorem toMachine_g (x : GMachine) (hb : D.bds bigN (cMachine x)) : Con Tryz.prog 82 [] [vR (cMachine x)] [] (fun _ : Unit => True) (fun _ => [agMachineG x 901 902 903]) fun _ => [(901, arrC 2 cCopy GCopy.z x.copies), (902, arrC 4 cRecord GRecord.z x.log), (903, arrC 1 cInt 0 x.cleared)] := by
  refine con_enter Tryz.func82 rfl rfl rfl fun B0 r_ D_ w0 => ?_
  refine T_auto TT_ok rfl ?_
  refine RJ_C TT_ok (Con.sw 900 901 (toCopyS_m x.copies hb.2.1)) rfl rfl (SVs.imp_refl _) (fun _ => rfl) rfl rfl rfl fun _ _ => ?_
  refine RJ_auto TT_ok rfl ?_
  refine RJ_C TT_ok (Con.sw 900 902 (toRecordS_m x.log hb.2.2.1)) rfl rfl (SVs.imp_refl _) (fun _ => rfl) rfl rfl rfl fun _ _ => ?_
  refine RJ_auto TT_ok rfl ?_
  refine RJ_C TT_ok (Con.sw 900 903 (toInt64S_m x.cleared hb.2.2.2.1.1)) rfl rfl (SVs.imp_refl _) (fun _ => rfl) rfl rfl rfl fun _ _ => ?_
  refine RJ_auto TT_ok rfl ?_
  refine T_ret TT_ok (()) [(2, some 85)] rfl rfl ?_ ?_ ?_
  · exact SVs.imp_refl _
  · exact ⟨⟨_, rfl, Ch.imp_refl _⟩, ⟨_, rfl, Ch.imp_refl _⟩, ⟨_, rfl, Ch.imp_refl _⟩, trivial⟩
  · trivial
theorem eqMachine_g (x : GMachine) (hb : D.bds bigN (cMachine x)) : Ans Tryz.prog 99 [] [vR (cMachine x), vR (cMachine x)] [] (vB true) := by
  refine con_enter Tryz.func99 rfl rfl rfl fun B0 r_ D_ w0 => ?_
  refine T_auto TT_ok rfl ?_
  refine T_condX rfl (fun e => by simp at e) (fun _ => ?_)
  refine T_auto TT_ok rfl ?_
  refine RJ_Q TT_ok (eqCopyS_q _ hb.2.1) rfl rfl rfl rfl rfl ?_
  refine T_cond rfl (fun e => by cases e) (fun _ => ?_)
  refine T_auto TT_ok rfl ?_
  refine RJ_Q TT_ok (eqRecordS_q _ hb.2.2.1) rfl rfl rfl rfl rfl ?_
  refine T_cond rfl (fun e => by cases e) (fun _ => ?_)
  refine T_auto TT_ok rfl ?_
  refine RJ_Q TT_ok (eqInt64S_q _ hb.2.2.2.1.1) rfl rfl rfl rfl rfl ?_
  refine T_cond rfl (fun e => by cases e) (fun _ => ?_)
  refine T_auto TT_ok rfl ?_
  exact T_ansB TT_ok [(4, none)] rfl rfl (rfl)
theorem szMachineS_q (xs : List GMachine) (hb : D.bd maxL (dL 4 cMachine GMachine.z xs)) (l : Int) (h1 : 0 ≤ l) (h2 : l ≤ 1048576) : Ans Tryz.prog 37 [] [vL 4 cMachine GMachine.z xs, vI l] [] (vI (szI l (wL wMachine xs))) := by
  have hx : xs.length ≤ maxL := hb.1
  unfold maxL at hx
  unfold wL
  refine con_enter Tryz.func37 rfl rfl rfl fun B0 r_ D_ w0 => ?_
  refine T_auto TT_ok rfl ?_
  refine T_condD rfl (fun e => ?_) (fun e => ?_)
  · refine T_auto TT_ok rfl ?_
    exact T_ansI TT_ok [(4, none)] rfl rfl ((szI_mono (szI_no e) (Nat.le_add_right _ _)).symm)
  refine T_auto TT_ok rfl ?_
  refine T_loopA (ι := Nat) (fun i => [(5, vI i), (1, vI (l - xs.length - (sumW wMachine (xs.take i) : Nat)))]) (fun _ => []) (fun i => i ≤ xs.length ∧ 0 ≤ l - xs.length - (sumW wMachine (xs.take i) : Nat)) (fun i => xs.length - i) 0 [] [] rfl rfl ⟨Nat.zero_le _, by simp [sumW]; omega⟩ ⟨⟨_, rfl, SV.imp_refl _⟩, ⟨_, rfl, SV.imp_of (vI_eq (by simp [sumW]))⟩, trivial⟩ (by repeat (first | exact trivial | refine And.intro ⟨_, rfl, Ch.imp_refl _⟩ ?_)) ?_
  intro i ⟨h3, h4⟩
  refine T_auto TT_ok rfl ?_
  refine T_condD rfl (fun e2 => ?_) (fun e2 => ?_)
  · have hi : i < xs.length := by omega
    have hs := sumW_take (w := wMachine) (z := GMachine.z) hi
    have hs2 := sumW_take_le (w := wMachine) xs (i + 1)
    refine T_auto TT_ok rfl ?_
    refine RJ_Q TT_ok (szMachine_g _ (hb.2 i hi) _ h4 (by omega)) rfl rfl rfl rfl rfl ?_
    refine T_condD rfl (fun e3 => ?_) (fun e3 => ?_)
    · have h5 := szI_neg.1 e3
      refine T_auto TT_ok rfl ?_
      exact T_ansI TT_ok [(4, none)] rfl rfl ((szI_mono (szI_neg.2 (by omega)) (Nat.le_refl _)).symm)
    · have h5 := szI_in e3
      refine T_auto TT_ok rfl ?_
      exact X_inv (i + 1) ⟨hi, by omega⟩ (by omega) ⟨⟨_, rfl, SV.imp_refl _⟩, ⟨_, rfl, SV.imp_of (vI_eq (by omega))⟩, (by repeat (first | exact trivial | refine And.intro ⟨_, rfl, SV.imp_refl _⟩ ?_))⟩ (by repeat (first | exact trivial | refine And.intro ⟨_, rfl, Ch.imp_refl _⟩ ?_))
  · have hi : i = xs.length := by omega
    subst hi
    rw [List.take_length] at h4 ⊢
    refine T_auto TT_ok rfl ?_
    exact T_ansI TT_ok [(4, none)] rfl rfl (by rw [szI_yes (by omega)]; omega)
theorem eqMachineS_q (xs : List GMachine) (hb : D.bd bigN (dL 4 cMachine GMachine.z xs)) : Ans Tryz.prog 46 [] [vL 4 cMachine GMachine.z xs, vL 4 cMachine GMachine.z xs] [] (vB true) := by
  have hl : xs.length ≤ 1048576 := hb.1
  refine con_enter Tryz.func46 rfl rfl rfl fun B0 r_ D_ w0 => ?_
  refine T_auto TT_ok rfl ?_
  refine T_condN rfl (fun e => absurd rfl e) (fun _ => ?_)
  refine T_auto TT_ok rfl ?_
  refine T_loopA (ι := Nat) (fun i => [(5, vI i)]) (fun _ => []) (fun i => i ≤ xs.length) (fun i => xs.length - i) 0 [] [] rfl rfl (Nat.zero_le _) (by repeat (first | exact trivial | refine And.intro ⟨_, rfl, SV.imp_refl _⟩ ?_)) (by repeat (first | exact trivial | refine And.intro ⟨_, rfl, Ch.imp_refl _⟩ ?_)) ?_
  intro i h1
  refine T_auto TT_ok rfl ?_
  refine T_condD rfl (fun e => ?_) (fun e => ?_)
  · have hi : i < xs.length := by omega
    refine T_auto TT_ok rfl ?_
    refine T_drawA TT_ok [] rfl rfl fun B0 H0 => ?_
    refine DJ_Q TT_ok (eqMachine_g _ (hb.2 i hi)) rfl rfl rfl rfl rfl rfl ?_
    refine DJ_endA TT_ok rfl ?_
    refine T_cond rfl (fun e => by cases e) (fun _ => ?_)
    refine T_auto TT_ok rfl ?_
    exact X_inv (i + 1) hi (by omega) (by repeat (first | exact trivial | refine And.intro ⟨_, rfl, SV.imp_refl _⟩ ?_)) (by repeat (first | exact trivial | refine And.intro ⟨_, rfl, Ch.imp_refl _⟩ ?_))
  · refine T_auto TT_ok rfl ?_
    exact T_ansB TT_ok [(4, none)] rfl rfl (rfl)
theorem toMachineS_m (xs : List GMachine) (hb : D.bd bigN (dL 4 cMachine GMachine.z xs)) : MkL Tryz.prog 41 [vL 4 cMachine GMachine.z xs] 4 cMachine GMachine.z xs := by
  have hl : xs.length ≤ 1048576 := hb.1
  refine con_enter Tryz.func41 rfl rfl rfl fun B0 r_ D_ w0 => ?_
  refine T_auto TT_ok rfl ?_
  refine RJ_make TT_ok 7 xs.length rfl rfl rfl rfl rfl rfl rfl ⟨by simp; omega, by unfold maxL; omega⟩ ?_
  refine RJ_auto TT_ok rfl ?_
  refine T_loopA (ι := Nat) (fun i => [(4, vI i)]) (fun i => [(7, .arr 4 xs.length fun k => cMachine (if k < i then xs.getD k GMachine.z else GMachine.z))]) (fun i => i ≤ xs.length) (fun i => xs.length - i) 0 [7] [] rfl rfl (Nat.zero_le _) (by repeat (first | exact trivial | refine And.intro ⟨_, rfl, SV.imp_refl _⟩ ?_)) ⟨⟨_, rfl, Ch.imp_own rfl fun k hk => by rw [if_neg (Nat.not_lt_zero _)]; exact OwnI.c (OwnI.n (OwnI.n (OwnI.n OwnI.e)))⟩, trivial⟩ ?_
  intro i h1
  refine T_auto TT_ok rfl ?_
  refine T_condD rfl (fun e => ?_) (fun e => ?_)
  · have hi : i < xs.length := by omega
    refine T_auto TT_ok rfl ?_
    refine RJ_C TT_ok (Con.sw 903 2903 (Con.sw 902 2902 (Con.sw 901 2901 (toMachine_g _ (hb.2 i hi))))) rfl rfl (SVs.imp_refl _) (fun _ => rfl) rfl rfl rfl fun _ _ => ?_
    refine RJ_auto TT_ok rfl ?_
    refine RJ_view (V_carve 7 i 7000 (l := [.v (.bool false), .s .o 2 0 fun i => cCopy (([] : List GCopy).getD i GCopy.z), .s .o 4 0 fun i => cRecord (([] : List GRecord).getD i GRecord.z), .s .o 1 0 fun i => cInt (([] : List Int).getD i 0)]) rfl (by rw [if_neg (by omega : ¬ ((i : Int)).toNat < i)]; rfl) rfl rfl rfl rfl ⟨by omega, by omega⟩) ?_
    refine RJ_view (V_pe 21 rfl rfl rfl) ?_
    refine RJ_auto TT_ok rfl ?_
    refine X_view (V_fold 7000 1 2901 rfl rfl rfl rfl rfl rfl rfl) ?_
    refine X_view (V_fold 7000 2 2902 rfl rfl rfl rfl rfl rfl rfl) ?_
    refine X_view (V_fold 7000 3 2903 rfl rfl rfl rfl rfl rfl rfl) ?_
    refine X_view (V_uncarve 7 7000 rfl rfl rfl rfl rfl rfl rfl) ?_
    exact X_inv (i + 1) hi (by omega) (by repeat (first | exact trivial | refine And.intro ⟨_, rfl, SV.imp_refl _⟩ ?_)) ⟨⟨_, rfl, Ch.imp_arr fun k hk => fill_step (fun x => cMachine x) rfl⟩, (by repeat (first | exact trivial | refine And.intro ⟨_, rfl, Ch.imp_refl _⟩ ?_))⟩
  · have hi : i = xs.length := by omega
    subst hi
    refine T_auto TT_ok rfl ?_
    refine T_view (V_sw 7 900) ?_
    refine T_ret TT_ok (()) [(2, none)] rfl rfl ?_ ?_ ?_
    · exact SVs.imp_refl _
    · exact ⟨⟨_, rfl, Ch.imp_arr fun k hk => by rw [if_pos hk]⟩, trivial⟩
    · trivial
theorem mMachine_eq (x : GMachine) : mMachine x = 0+1+((sumW mCopy x.copies))+((sumW mRecord x.log))+(x.cleared.length) := by unfold mMachine; omega
theorem markMachineS_w (xs : List GMachine) (hb : D.bd bigN (dL 4 cMachine GMachine.z xs)) (k0 : Int) (h1 : 0 ≤ k0) (h2 : k0 + (sumW mMachine xs : Nat) ≤ 1000000000000) : Con Tryz.prog 51 [900] [.a (.g 900), vI k0] [(900, arrC 4 cMachine GMachine.z xs)] (fun _ : Unit => True) (fun _ => [vI (k0 + (sumW mMachine xs : Nat))]) fun _ => [(900, arrC 4 cMachine GMachine.z (mkL mkMachine mMachine GMachine.z xs k0))] := by
  have hl : xs.length ≤ 1048576 := hb.1
  refine con_enter Tryz.func51 rfl rfl rfl fun B0 r_ D_ w0 => ?_
  refine T_auto TT_ok rfl ?_
  refine T_loopA (ι := Nat) (fun i => [(5, vI i), (1, vI (k0 + (sumW mMachine (xs.take i) : Nat)))]) (fun i => [(900, .arr 4 xs.length fun j => cMachine (if j < i then mkMachine (xs.getD j GMachine.z) (k0 + (sumW mMachine (xs.take j) : Nat)) else xs.getD j GMachine.z))]) (fun i => i ≤ xs.length) (fun i => xs.length - i) 0 [900] [] rfl rfl (Nat.zero_le _) ⟨⟨_, rfl, SV.imp_refl _⟩, ⟨_, rfl, SV.imp_of (vI_eq (by simp [sumW]))⟩, trivial⟩ ⟨⟨_, rfl, Ch.imp_arr fun k hk => by rw [if_neg (Nat.not_lt_zero _)]⟩, trivial⟩ ?_
  intro i h3
  refine T_auto TT_ok rfl ?_
  refine T_condD rfl (fun e => ?_) (fun e => ?_)
  · have hi : i < xs.length := by omega
    have hs := sumW_take (w := mMachine) (z := GMachine.z) hi
    have hs2 := sumW_take_le (w := mMachine) xs (i + 1)
    have hm := mMachine_eq (xs.getD i GMachine.z)
    have ht : sumW mMachine (xs.take ((i : Int)).toNat) = sumW mMachine (xs.take i) := rfl
    refine T_view (V_carve 900 i 7000 (l := [.v (.bool (xs.getD i GMachine.z).alive), .s .o 2 (xs.getD i GMachine.z).copies.length fun j => cCopy ((xs.getD i GMachine.z).copies.getD j GCopy.z), .s .o 4 (xs.getD i GMachine.z).log.length fun j => cRecord ((xs.getD i GMachine.z).log.getD j GRecord.z), .s .o 1 (xs.getD i GMachine.z).cleared.length fun j => cInt ((xs.getD i GMachine.z).cleared.getD j 0)]) rfl (by rw [if_neg (by omega : ¬ ((i : Int)).toNat < i)]; rfl) rfl rfl rfl rfl ⟨by omega, by omega⟩) ?_
    refine T_view (V_open 7000 1 7001 rfl rfl rfl rfl rfl rfl) ?_
    refine T_view (V_open 7000 2 7002 rfl rfl rfl rfl rfl rfl) ?_
    refine T_view (V_open 7000 3 7003 rfl rfl rfl rfl rfl rfl) ?_
    refine T_auto TT_ok rfl ?_
    refine RJ_view (V_pe 18 rfl rfl rfl) ?_
    refine RJ_auto TT_ok rfl ?_
    refine RJ_view (V_pe 24 rfl rfl rfl) ?_
    refine RJ_auto TT_ok rfl ?_
    refine RJ_C TT_ok (Con.sw 900 7001 (markCopyS_w (xs.getD i GMachine.z).copies (hb.2 i hi).2.1 _ (by omega) (by omega))) rfl rfl (SVs.imp_refl _) (fun _ => rfl) rfl rfl rfl fun _ _ => ?_
    refine RJ_auto TT_ok rfl ?_
    refine RJ_view (V_pe 31 rfl rfl rfl) ?_
    refine RJ_auto TT_ok rfl ?_
    refine RJ_C TT_ok (Con.sw 900 7002 (markRecordS_w (xs.getD i GMachine.z).log (hb.2 i hi).2.2.1 _ (by omega) (by omega))) rfl rfl (SVs.imp_refl _) (fun _ => rfl) rfl rfl rfl fun _ _ => ?_
    refine RJ_auto TT_ok rfl ?_
    refine RJ_view (V_pe 38 rfl rfl rfl) ?_
    refine RJ_auto TT_ok rfl ?_
    refine RJ_C TT_ok (Con.sw 900 7003 (markInt64S_w (xs.getD i GMachine.z).cleared (hb.2 i hi).2.2.2.1.1 _ (by omega) (by omega))) rfl rfl (SVs.imp_refl _) (fun _ => rfl) rfl rfl rfl fun _ _ => ?_
    refine RJ_auto TT_ok rfl ?_
    refine X_view (V_fold 7000 1 7001 rfl rfl rfl rfl rfl rfl rfl) ?_
    refine X_view (V_fold 7000 2 7002 rfl rfl rfl rfl rfl rfl rfl) ?_
    refine X_view (V_fold 7000 3 7003 rfl rfl rfl rfl rfl rfl rfl) ?_
    refine X_view (V_uncarve 900 7000 rfl rfl rfl rfl rfl rfl rfl) ?_
    exact X_inv (i + 1) hi (by omega) ⟨⟨_, rfl, SV.imp_refl _⟩, ⟨_, rfl, SV.imp_of (vI_eq (by omega))⟩, (by repeat (first | exact trivial | refine And.intro ⟨_, rfl, SV.imp_refl _⟩ ?_))⟩ ⟨⟨_, rfl, Ch.imp_arr fun k hk => fill_step2 (i := i) (k := k) (fun x => cMachine x) (fun j => mkMachine (xs.getD j GMachine.z) (k0 + (sumW mMachine (xs.take j) : Nat))) (o := fun j => xs.getD j GMachine.z) (by rfl)⟩, (by repeat (first | exact trivial | refine And.intro ⟨_, rfl, Ch.imp_refl _⟩ ?_))⟩
  · have hi : i = xs.length := by omega
    subst hi
    rw [List.take_length]
    refine T_auto TT_ok rfl ?_
    refine T_ret TT_ok (()) [(4, none)] rfl rfl ?_ ?_ ?_
    · exact SVs.imp_refl _
    · exact ⟨⟨_, rfl, Ch.imp_len (tab_length _ _).symm fun k hk => by rw [if_pos hk, mkL, tab_getD hk]⟩, trivial⟩
    · trivial
abbrev agTxG (x : GTx) (k1 k2 : Nat) : SV := .ag [.v (.int .i64 x.id), .v (.int .i64 x.home), .v (.int .i64 x.phase), .v (.int .i64 x.done), .g k1, .g k2, .v (.int .i64 x.stamp)]
theorem szTx_g (x : GTx) (hb : D.bds maxL (cTx x)) (l : Int) (h1 : 0 ≤ l) (h2 : l ≤ 1048576) : Ans Tryz.prog 76 [] [vR (cTx x), vI l] [] (vI (szI l (wTx x))) := by
  unfold wTx
  refine con_enter Tryz.func76 rfl rfl rfl fun B0 r_ D_ w0 => ?_
  refine T_auto TT_ok rfl ?_
  refine RJ_Q TT_ok (szNoteS_q _ hb.2.2.2.2.1.1 _ h1 h2) rfl rfl rfl rfl rfl ?_
  refine T_condD rfl (fun e1 => ?_) (fun e1 => ?_)
  · refine T_auto TT_ok rfl ?_
    exact T_ansI TT_ok [(4, none)] rfl rfl (by exact (szI_mono e1 (by omega)).symm)
  have e1r := e1
  refine T_auto TT_ok rfl ?_
  refine RJ_Q TT_ok (szSetS_q _ hb.2.2.2.2.2.1.1 _ (szI_in e1).1 (Int.le_trans (szI_in e1).2.1 h2)) rfl rfl rfl rfl rfl ?_
  refine T_condD rfl (fun e2 => ?_) (fun e2 => ?_)
  · refine T_auto TT_ok rfl ?_
    exact T_ansI TT_ok [(4, none)] rfl rfl (by rw [szI_ge e1r] at e2; exact (szI_mono e2 (by omega)).symm)
  have e2r := e2
  rw [szI_ge e1r] at e2r
  refine T_auto TT_ok rfl ?_
  exact T_ansI TT_ok [(4, none)] rfl rfl (by rw [szI_ge e1r])
theorem toTx_g (x : GTx) (hb : D.bds bigN (cTx x)) : Con Tryz.prog 83 [] [vR (cTx x)] [] (fun _ : Unit => True) (fun _ => [agTxG x 901 902]) fun _ => [(901, arrC 5 cNote GNote.z x.reads), (902, arrC 5 cSet GSet.z x.sets)] := by
  refine con_enter Tryz.func83 rfl rfl rfl fun B0 r_ D_ w0 => ?_
  refine T_auto TT_ok rfl ?_
  refine RJ_C TT_ok (Con.sw 900 901 (toNoteS_m x.reads hb.2.2.2.2.1.1)) rfl rfl (SVs.imp_refl _) (fun _ => rfl) rfl rfl rfl fun _ _ => ?_
  refine RJ_auto TT_ok rfl ?_
  refine RJ_C TT_ok (Con.sw 900 902 (toSetS_m x.sets hb.2.2.2.2.2.1.1)) rfl rfl (SVs.imp_refl _) (fun _ => rfl) rfl rfl rfl fun _ _ => ?_
  refine RJ_auto TT_ok rfl ?_
  refine T_ret TT_ok (()) [(2, some 57)] rfl rfl ?_ ?_ ?_
  · exact SVs.imp_refl _
  · exact ⟨⟨_, rfl, Ch.imp_refl _⟩, ⟨_, rfl, Ch.imp_refl _⟩, trivial⟩
  · trivial
theorem eqTx_g (x : GTx) (hb : D.bds bigN (cTx x)) : Ans Tryz.prog 100 [] [vR (cTx x), vR (cTx x)] [] (vB true) := by
  refine con_enter Tryz.func100 rfl rfl rfl fun B0 r_ D_ w0 => ?_
  refine T_auto TT_ok rfl ?_
  refine T_condN rfl (fun e => absurd rfl e) (fun _ => ?_)
  refine T_auto TT_ok rfl ?_
  refine T_condN rfl (fun e => absurd rfl e) (fun _ => ?_)
  refine T_auto TT_ok rfl ?_
  refine T_condN rfl (fun e => absurd rfl e) (fun _ => ?_)
  refine T_auto TT_ok rfl ?_
  refine T_condN rfl (fun e => absurd rfl e) (fun _ => ?_)
  refine T_auto TT_ok rfl ?_
  refine RJ_Q TT_ok (eqNoteS_q _ hb.2.2.2.2.1.1) rfl rfl rfl rfl rfl ?_
  refine T_cond rfl (fun e => by cases e) (fun _ => ?_)
  refine T_auto TT_ok rfl ?_
  refine RJ_Q TT_ok (eqSetS_q _ hb.2.2.2.2.2.1.1) rfl rfl rfl rfl rfl ?_
  refine T_cond rfl (fun e => by cases e) (fun _ => ?_)
  refine T_auto TT_ok rfl ?_
  refine T_condN rfl (fun e => absurd rfl e) (fun _ => ?_)
  refine T_auto TT_ok rfl ?_
  exact T_ansB TT_ok [(4, none)] rfl rfl (rfl)
theorem szTxS_q (xs : List GTx) (hb : D.bd maxL (dL 7 cTx GTx.z xs)) (l : Int) (h1 : 0 ≤ l) (h2 : l ≤ 1048576) : Ans Tryz.prog 38 [] [vL 7 cTx GTx.z xs, vI l] [] (vI (szI l (wL wTx xs))) := by
  have hx : xs.length ≤ maxL := hb.1
  unfold maxL at hx
  unfold wL
  refine con_enter Tryz.func38 rfl rfl rfl fun B0 r_ D_ w0 => ?_
  refine T_auto TT_ok rfl ?_
  refine T_condD rfl (fun e => ?_) (fun e => ?_)
  · refine T_auto TT_ok rfl ?_
    exact T_ansI TT_ok [(4, none)] rfl rfl ((szI_mono (szI_no e) (Nat.le_add_right _ _)).symm)
  refine T_auto TT_ok rfl ?_
  refine T_loopA (ι := Nat) (fun i => [(5, vI i), (1, vI (l - xs.length - (sumW wTx (xs.take i) : Nat)))]) (fun _ => []) (fun i => i ≤ xs.length ∧ 0 ≤ l - xs.length - (sumW wTx (xs.take i) : Nat)) (fun i => xs.length - i) 0 [] [] rfl rfl ⟨Nat.zero_le _, by simp [sumW]; omega⟩ ⟨⟨_, rfl, SV.imp_refl _⟩, ⟨_, rfl, SV.imp_of (vI_eq (by simp [sumW]))⟩, trivial⟩ (by repeat (first | exact trivial | refine And.intro ⟨_, rfl, Ch.imp_refl _⟩ ?_)) ?_
  intro i ⟨h3, h4⟩
  refine T_auto TT_ok rfl ?_
  refine T_condD rfl (fun e2 => ?_) (fun e2 => ?_)
  · have hi : i < xs.length := by omega
    have hs := sumW_take (w := wTx) (z := GTx.z) hi
    have hs2 := sumW_take_le (w := wTx) xs (i + 1)
    refine T_auto TT_ok rfl ?_
    refine RJ_Q TT_ok (szTx_g _ (hb.2 i hi) _ h4 (by omega)) rfl rfl rfl rfl rfl ?_
    refine T_condD rfl (fun e3 => ?_) (fun e3 => ?_)
    · have h5 := szI_neg.1 e3
      refine T_auto TT_ok rfl ?_
      exact T_ansI TT_ok [(4, none)] rfl rfl ((szI_mono (szI_neg.2 (by omega)) (Nat.le_refl _)).symm)
    · have h5 := szI_in e3
      refine T_auto TT_ok rfl ?_
      exact X_inv (i + 1) ⟨hi, by omega⟩ (by omega) ⟨⟨_, rfl, SV.imp_refl _⟩, ⟨_, rfl, SV.imp_of (vI_eq (by omega))⟩, (by repeat (first | exact trivial | refine And.intro ⟨_, rfl, SV.imp_refl _⟩ ?_))⟩ (by repeat (first | exact trivial | refine And.intro ⟨_, rfl, Ch.imp_refl _⟩ ?_))
  · have hi : i = xs.length := by omega
    subst hi
    rw [List.take_length] at h4 ⊢
    refine T_auto TT_ok rfl ?_
    exact T_ansI TT_ok [(4, none)] rfl rfl (by rw [szI_yes (by omega)]; omega)
theorem eqTxS_q (xs : List GTx) (hb : D.bd bigN (dL 7 cTx GTx.z xs)) : Ans Tryz.prog 47 [] [vL 7 cTx GTx.z xs, vL 7 cTx GTx.z xs] [] (vB true) := by
  have hl : xs.length ≤ 1048576 := hb.1
  refine con_enter Tryz.func47 rfl rfl rfl fun B0 r_ D_ w0 => ?_
  refine T_auto TT_ok rfl ?_
  refine T_condN rfl (fun e => absurd rfl e) (fun _ => ?_)
  refine T_auto TT_ok rfl ?_
  refine T_loopA (ι := Nat) (fun i => [(5, vI i)]) (fun _ => []) (fun i => i ≤ xs.length) (fun i => xs.length - i) 0 [] [] rfl rfl (Nat.zero_le _) (by repeat (first | exact trivial | refine And.intro ⟨_, rfl, SV.imp_refl _⟩ ?_)) (by repeat (first | exact trivial | refine And.intro ⟨_, rfl, Ch.imp_refl _⟩ ?_)) ?_
  intro i h1
  refine T_auto TT_ok rfl ?_
  refine T_condD rfl (fun e => ?_) (fun e => ?_)
  · have hi : i < xs.length := by omega
    refine T_auto TT_ok rfl ?_
    refine T_drawA TT_ok [] rfl rfl fun B0 H0 => ?_
    refine DJ_Q TT_ok (eqTx_g _ (hb.2 i hi)) rfl rfl rfl rfl rfl rfl ?_
    refine DJ_endA TT_ok rfl ?_
    refine T_cond rfl (fun e => by cases e) (fun _ => ?_)
    refine T_auto TT_ok rfl ?_
    exact X_inv (i + 1) hi (by omega) (by repeat (first | exact trivial | refine And.intro ⟨_, rfl, SV.imp_refl _⟩ ?_)) (by repeat (first | exact trivial | refine And.intro ⟨_, rfl, Ch.imp_refl _⟩ ?_))
  · refine T_auto TT_ok rfl ?_
    exact T_ansB TT_ok [(4, none)] rfl rfl (rfl)
theorem toTxS_m (xs : List GTx) (hb : D.bd bigN (dL 7 cTx GTx.z xs)) : MkL Tryz.prog 42 [vL 7 cTx GTx.z xs] 7 cTx GTx.z xs := by
  have hl : xs.length ≤ 1048576 := hb.1
  refine con_enter Tryz.func42 rfl rfl rfl fun B0 r_ D_ w0 => ?_
  refine T_auto TT_ok rfl ?_
  refine RJ_make TT_ok 7 xs.length rfl rfl rfl rfl rfl rfl rfl ⟨by simp; omega, by unfold maxL; omega⟩ ?_
  refine RJ_auto TT_ok rfl ?_
  refine T_loopA (ι := Nat) (fun i => [(4, vI i)]) (fun i => [(7, .arr 7 xs.length fun k => cTx (if k < i then xs.getD k GTx.z else GTx.z))]) (fun i => i ≤ xs.length) (fun i => xs.length - i) 0 [7] [] rfl rfl (Nat.zero_le _) (by repeat (first | exact trivial | refine And.intro ⟨_, rfl, SV.imp_refl _⟩ ?_)) ⟨⟨_, rfl, Ch.imp_own rfl fun k hk => by rw [if_neg (Nat.not_lt_zero _)]; exact OwnI.c (OwnI.c (OwnI.c (OwnI.c (OwnI.n (OwnI.n (OwnI.c OwnI.e))))))⟩, trivial⟩ ?_
  intro i h1
  refine T_auto TT_ok rfl ?_
  refine T_condD rfl (fun e => ?_) (fun e => ?_)
  · have hi : i < xs.length := by omega
    refine T_auto TT_ok rfl ?_
    refine RJ_C TT_ok (Con.sw 902 2902 (Con.sw 901 2901 (toTx_g _ (hb.2 i hi)))) rfl rfl (SVs.imp_refl _) (fun _ => rfl) rfl rfl rfl fun _ _ => ?_
    refine RJ_auto TT_ok rfl ?_
    refine RJ_view (V_carve 7 i 7000 (l := [.v (.int .i64 0), .v (.int .i64 0), .v (.int .i64 0), .v (.int .i64 0), .s .o 5 0 fun i => cNote (([] : List GNote).getD i GNote.z), .s .o 5 0 fun i => cSet (([] : List GSet).getD i GSet.z), .v (.int .i64 0)]) rfl (by rw [if_neg (by omega : ¬ ((i : Int)).toNat < i)]; rfl) rfl rfl rfl rfl ⟨by omega, by omega⟩) ?_
    refine RJ_view (V_pe 21 rfl rfl rfl) ?_
    refine RJ_auto TT_ok rfl ?_
    refine X_view (V_fold 7000 4 2901 rfl rfl rfl rfl rfl rfl rfl) ?_
    refine X_view (V_fold 7000 5 2902 rfl rfl rfl rfl rfl rfl rfl) ?_
    refine X_view (V_uncarve 7 7000 rfl rfl rfl rfl rfl rfl rfl) ?_
    exact X_inv (i + 1) hi (by omega) (by repeat (first | exact trivial | refine And.intro ⟨_, rfl, SV.imp_refl _⟩ ?_)) ⟨⟨_, rfl, Ch.imp_arr fun k hk => fill_step (fun x => cTx x) rfl⟩, (by repeat (first | exact trivial | refine And.intro ⟨_, rfl, Ch.imp_refl _⟩ ?_))⟩
  · have hi : i = xs.length := by omega
    subst hi
    refine T_auto TT_ok rfl ?_
    refine T_view (V_sw 7 900) ?_
    refine T_ret TT_ok (()) [(2, none)] rfl rfl ?_ ?_ ?_
    · exact SVs.imp_refl _
    · exact ⟨⟨_, rfl, Ch.imp_arr fun k hk => by rw [if_pos hk]⟩, trivial⟩
    · trivial
theorem mTx_eq (x : GTx) : mTx x = 0+1+1+1+1+(5 * x.reads.length)+(5 * x.sets.length)+1 := by unfold mTx; omega
theorem markTxS_w (xs : List GTx) (hb : D.bd bigN (dL 7 cTx GTx.z xs)) (k0 : Int) (h1 : 0 ≤ k0) (h2 : k0 + (sumW mTx xs : Nat) ≤ 1000000000000) : Con Tryz.prog 52 [900] [.a (.g 900), vI k0] [(900, arrC 7 cTx GTx.z xs)] (fun _ : Unit => True) (fun _ => [vI (k0 + (sumW mTx xs : Nat))]) fun _ => [(900, arrC 7 cTx GTx.z (mkL mkTx mTx GTx.z xs k0))] := by
  have hl : xs.length ≤ 1048576 := hb.1
  refine con_enter Tryz.func52 rfl rfl rfl fun B0 r_ D_ w0 => ?_
  refine T_auto TT_ok rfl ?_
  refine T_loopA (ι := Nat) (fun i => [(5, vI i), (1, vI (k0 + (sumW mTx (xs.take i) : Nat)))]) (fun i => [(900, .arr 7 xs.length fun j => cTx (if j < i then mkTx (xs.getD j GTx.z) (k0 + (sumW mTx (xs.take j) : Nat)) else xs.getD j GTx.z))]) (fun i => i ≤ xs.length) (fun i => xs.length - i) 0 [900] [] rfl rfl (Nat.zero_le _) ⟨⟨_, rfl, SV.imp_refl _⟩, ⟨_, rfl, SV.imp_of (vI_eq (by simp [sumW]))⟩, trivial⟩ ⟨⟨_, rfl, Ch.imp_arr fun k hk => by rw [if_neg (Nat.not_lt_zero _)]⟩, trivial⟩ ?_
  intro i h3
  refine T_auto TT_ok rfl ?_
  refine T_condD rfl (fun e => ?_) (fun e => ?_)
  · have hi : i < xs.length := by omega
    have hs := sumW_take (w := mTx) (z := GTx.z) hi
    have hs2 := sumW_take_le (w := mTx) xs (i + 1)
    have hm := mTx_eq (xs.getD i GTx.z)
    have ht : sumW mTx (xs.take ((i : Int)).toNat) = sumW mTx (xs.take i) := rfl
    refine T_view (V_carve 900 i 7000 (l := [.v (.int .i64 (xs.getD i GTx.z).id), .v (.int .i64 (xs.getD i GTx.z).home), .v (.int .i64 (xs.getD i GTx.z).phase), .v (.int .i64 (xs.getD i GTx.z).done), .s .o 5 (xs.getD i GTx.z).reads.length fun j => cNote ((xs.getD i GTx.z).reads.getD j GNote.z), .s .o 5 (xs.getD i GTx.z).sets.length fun j => cSet ((xs.getD i GTx.z).sets.getD j GSet.z), .v (.int .i64 (xs.getD i GTx.z).stamp)]) rfl (by rw [if_neg (by omega : ¬ ((i : Int)).toNat < i)]; rfl) rfl rfl rfl rfl ⟨by omega, by omega⟩) ?_
    refine T_view (V_open 7000 4 7001 rfl rfl rfl rfl rfl rfl) ?_
    refine T_view (V_open 7000 5 7002 rfl rfl rfl rfl rfl rfl) ?_
    refine T_auto TT_ok rfl ?_
    refine RJ_view (V_pe 16 rfl rfl rfl) ?_
    refine RJ_auto TT_ok rfl ?_
    refine RJ_view (V_pe 23 rfl rfl rfl) ?_
    refine RJ_auto TT_ok rfl ?_
    refine RJ_view (V_pe 30 rfl rfl rfl) ?_
    refine RJ_auto TT_ok rfl ?_
    refine RJ_view (V_pe 37 rfl rfl rfl) ?_
    refine RJ_auto TT_ok rfl ?_
    refine RJ_view (V_pe 43 rfl rfl rfl) ?_
    refine RJ_auto TT_ok rfl ?_
    refine RJ_C TT_ok (Con.sw 900 7001 (markNoteS_w (xs.getD i GTx.z).reads (hb.2 i hi).2.2.2.2.1.1 _ (by omega) (by omega))) rfl rfl (SVs.imp_refl _) (fun _ => rfl) rfl rfl rfl fun _ _ => ?_
    refine RJ_auto TT_ok rfl ?_
    refine RJ_view (V_pe 50 rfl rfl rfl) ?_
    refine RJ_auto TT_ok rfl ?_
    refine RJ_C TT_ok (Con.sw 900 7002 (markSetS_w (xs.getD i GTx.z).sets (hb.2 i hi).2.2.2.2.2.1.1 _ (by omega) (by omega))) rfl rfl (SVs.imp_refl _) (fun _ => rfl) rfl rfl rfl fun _ _ => ?_
    refine RJ_auto TT_ok rfl ?_
    refine RJ_view (V_pe 58 rfl rfl rfl) ?_
    refine RJ_auto TT_ok rfl ?_
    refine X_view (V_fold 7000 4 7001 rfl rfl rfl rfl rfl rfl rfl) ?_
    refine X_view (V_fold 7000 5 7002 rfl rfl rfl rfl rfl rfl rfl) ?_
    refine X_view (V_uncarve 900 7000 rfl rfl rfl rfl rfl rfl rfl) ?_
    exact X_inv (i + 1) hi (by omega) ⟨⟨_, rfl, SV.imp_refl _⟩, ⟨_, rfl, SV.imp_of (vI_eq (by omega))⟩, (by repeat (first | exact trivial | refine And.intro ⟨_, rfl, SV.imp_refl _⟩ ?_))⟩ ⟨⟨_, rfl, Ch.imp_arr fun k hk => fill_step2 (i := i) (k := k) (fun x => cTx x) (fun j => mkTx (xs.getD j GTx.z) (k0 + (sumW mTx (xs.take j) : Nat))) (o := fun j => xs.getD j GTx.z) (by rfl)⟩, (by repeat (first | exact trivial | refine And.intro ⟨_, rfl, Ch.imp_refl _⟩ ?_))⟩
  · have hi : i = xs.length := by omega
    subst hi
    rw [List.take_length]
    refine T_auto TT_ok rfl ?_
    refine T_ret TT_ok (()) [(4, none)] rfl rfl ?_ ?_ ?_
    · exact SVs.imp_refl _
    · exact ⟨⟨_, rfl, Ch.imp_len (tab_length _ _).symm fun k hk => by rw [if_pos hk, mkL, tab_getD hk]⟩, trivial⟩
    · trivial
abbrev agClusterG (x : GCluster) (k1 k2 k3 : Nat) : SV := .ag [.v (.int .i64 x.config), .v (.int .i64 x.clock), .g k1, .g k2, .g k3, .v (.bool x.lost)]
theorem szCluster_g (x : GCluster) (hb : D.bds maxL (cCluster x)) (l : Int) (h1 : 0 ≤ l) (h2 : l ≤ 1048576) : Ans Tryz.prog 8 [] [vR (cCluster x), vI l] [] (vI (szI l (wCluster x))) := by
  unfold wCluster
  refine con_enter Tryz.func8 rfl rfl rfl fun B0 r_ D_ w0 => ?_
  refine T_auto TT_ok rfl ?_
  refine RJ_Q TT_ok (szPlaceS_q _ hb.2.2.1 _ h1 h2) rfl rfl rfl rfl rfl ?_
  refine T_condD rfl (fun e1 => ?_) (fun e1 => ?_)
  · refine T_auto TT_ok rfl ?_
    exact T_ansI TT_ok [(4, none)] rfl rfl (by exact (szI_mono e1 (by omega)).symm)
  have e1r := e1
  refine T_auto TT_ok rfl ?_
  refine RJ_Q TT_ok (szMachineS_q _ hb.2.2.2.1 _ (szI_in e1).1 (Int.le_trans (szI_in e1).2.1 h2)) rfl rfl rfl rfl rfl ?_
  refine T_condD rfl (fun e2 => ?_) (fun e2 => ?_)
  · refine T_auto TT_ok rfl ?_
    exact T_ansI TT_ok [(4, none)] rfl rfl (by rw [szI_ge e1r] at e2; exact (szI_mono e2 (by omega)).symm)
  have e2r := e2
  rw [szI_ge e1r] at e2r
  refine T_auto TT_ok rfl ?_
  refine RJ_Q TT_ok (szTxS_q _ hb.2.2.2.2.1 _ (szI_in e2).1 (Int.le_trans (szI_in e2).2.1 (Int.le_trans (szI_in e1).2.1 h2))) rfl rfl rfl rfl rfl ?_
  refine T_condD rfl (fun e3 => ?_) (fun e3 => ?_)
  · refine T_auto TT_ok rfl ?_
    exact T_ansI TT_ok [(4, none)] rfl rfl (by rw [szI_ge e1r, szI_ge e2r] at e3; exact (szI_mono e3 (by omega)).symm)
  have e3r := e3
  rw [szI_ge e1r, szI_ge e2r] at e3r
  refine T_auto TT_ok rfl ?_
  exact T_ansI TT_ok [(4, none)] rfl rfl (by rw [szI_ge e1r, szI_ge e2r])
theorem toCluster_g (x : GCluster) (hb : D.bds bigN (cCluster x)) : Con Tryz.prog 10 [] [vR (cCluster x)] [] (fun _ : Unit => True) (fun _ => [agClusterG x 901 902 903]) fun _ => [(901, arrC 1 cPlace GPlace.z x.places), (902, arrC 4 cMachine GMachine.z x.machines), (903, arrC 7 cTx GTx.z x.txs)] := by
  refine con_enter Tryz.func10 rfl rfl rfl fun B0 r_ D_ w0 => ?_
  refine T_auto TT_ok rfl ?_
  refine RJ_C TT_ok (Con.sw 900 901 (toPlaceS_m x.places hb.2.2.1)) rfl rfl (SVs.imp_refl _) (fun _ => rfl) rfl rfl rfl fun _ _ => ?_
  refine RJ_auto TT_ok rfl ?_
  refine RJ_C TT_ok (Con.sw 900 902 (toMachineS_m x.machines hb.2.2.2.1)) rfl rfl (SVs.imp_refl _) (fun _ => rfl) rfl rfl rfl fun _ _ => ?_
  refine RJ_auto TT_ok rfl ?_
  refine RJ_C TT_ok (Con.sw 900 903 (toTxS_m x.txs hb.2.2.2.2.1)) rfl rfl (SVs.imp_refl _) (fun _ => rfl) rfl rfl rfl fun _ _ => ?_
  refine RJ_auto TT_ok rfl ?_
  refine T_ret TT_ok (()) [(2, some 33)] rfl rfl ?_ ?_ ?_
  · exact SVs.imp_refl _
  · exact ⟨⟨_, rfl, Ch.imp_refl _⟩, ⟨_, rfl, Ch.imp_refl _⟩, ⟨_, rfl, Ch.imp_refl _⟩, trivial⟩
  · trivial
theorem eqCluster_g (x : GCluster) (hb : D.bds bigN (cCluster x)) : Ans Tryz.prog 12 [] [vR (cCluster x), vR (cCluster x)] [] (vB true) := by
  refine con_enter Tryz.func12 rfl rfl rfl fun B0 r_ D_ w0 => ?_
  refine T_auto TT_ok rfl ?_
  refine T_condN rfl (fun e => absurd rfl e) (fun _ => ?_)
  refine T_auto TT_ok rfl ?_
  refine T_condN rfl (fun e => absurd rfl e) (fun _ => ?_)
  refine T_auto TT_ok rfl ?_
  refine RJ_Q TT_ok (eqPlaceS_q _ hb.2.2.1) rfl rfl rfl rfl rfl ?_
  refine T_cond rfl (fun e => by cases e) (fun _ => ?_)
  refine T_auto TT_ok rfl ?_
  refine RJ_Q TT_ok (eqMachineS_q _ hb.2.2.2.1) rfl rfl rfl rfl rfl ?_
  refine T_cond rfl (fun e => by cases e) (fun _ => ?_)
  refine T_auto TT_ok rfl ?_
  refine RJ_Q TT_ok (eqTxS_q _ hb.2.2.2.2.1) rfl rfl rfl rfl rfl ?_
  refine T_cond rfl (fun e => by cases e) (fun _ => ?_)
  refine T_auto TT_ok rfl ?_
  refine T_condX rfl (fun e => by simp at e) (fun _ => ?_)
  refine T_auto TT_ok rfl ?_
  exact T_ansB TT_ok [(4, none)] rfl rfl (rfl)
theorem markCluster_g (x : GCluster) (hb : D.bds bigN (cCluster x)) (k0 : Int) (h1 : 0 ≤ k0) (h2 : k0 + (sumW mPlace x.places : Nat) + (sumW mMachine x.machines : Nat) + (sumW mTx x.txs : Nat) ≤ 1000000000000) : Con Tryz.prog 16 [901, 902, 903] [agClusterG x 901 902 903, vI k0] [(901, arrC 1 cPlace GPlace.z x.places), (902, arrC 4 cMachine GMachine.z x.machines), (903, arrC 7 cTx GTx.z x.txs)] (fun _ : Unit => True) (fun _ => [vI (k0 + (sumW mPlace x.places : Nat) + (sumW mMachine x.machines : Nat) + (sumW mTx x.txs : Nat))]) fun _ => [(901, arrC 1 cPlace GPlace.z (mkCluster x k0).places), (902, arrC 4 cMachine GMachine.z (mkCluster x k0).machines), (903, arrC 7 cTx GTx.z (mkCluster x k0).txs)] := by
  refine con_enter Tryz.func16 rfl rfl rfl fun B0 r_ D_ w0 => ?_
  refine T_auto TT_ok rfl ?_
  refine RJ_C TT_ok (Con.sw 900 901 (markPlaceS_w x.places hb.2.2.1 _ (by omega) (by omega))) rfl rfl (SVs.imp_refl _) (fun _ => rfl) rfl rfl rfl fun _ _ => ?_
  refine RJ_auto TT_ok rfl ?_
  refine RJ_C TT_ok (Con.sw 900 902 (markMachineS_w x.machines hb.2.2.2.1 _ (by omega) (by omega))) rfl rfl (SVs.imp_refl _) (fun _ => rfl) rfl rfl rfl fun _ _ => ?_
  refine RJ_auto TT_ok rfl ?_
  refine RJ_C TT_ok (Con.sw 900 903 (markTxS_w x.txs hb.2.2.2.2.1 _ (by omega) (by omega))) rfl rfl (SVs.imp_refl _) (fun _ => rfl) rfl rfl rfl fun _ _ => ?_
  refine RJ_auto TT_ok rfl ?_
  refine T_ret TT_ok (()) [(4, none)] rfl rfl ?_ ?_ ?_
  · exact SVs.imp_refl _
  · exact ⟨⟨_, rfl, Ch.imp_refl _⟩, ⟨_, rfl, Ch.imp_refl _⟩, ⟨_, rfl, Ch.imp_refl _⟩, trivial⟩
  · trivial
end Go.Proofs.YthpjoddhlkcciaaGreat
namespace Go.Proofs.YthpjoddhlkcciaaGreat
open Go Go.RowKit
set_option linter.unusedVariables false
set_option linter.unusedSimpArgs false
set_option maxRecDepth 4000
theorem small_of {x : GCluster} (e : ¬ szI 1048576 (wCluster x) < 0) : D.bds bigN (cCluster x) := bd_Cluster x (by have := (szI_in e).2.2.2; unfold bigN; omega)
end Go.Proofs.YthpjoddhlkcciaaGreat
namespace Go.Proofs.YthpjoddhlkcciaaGreat
open Go Go.RowKit
set_option linter.unusedVariables false
set_option linter.unusedSimpArgs false
def putM (N : Nat) (xo : Option SV) (d : Option Nat) (fr : Fr) (gf : GF) : Option (Fr × GF) := match xo, d with
  | some x, some t => match gdrop t gf with
    | some gf' => bif Nat.blt t N then some ((t, x) :: fr, gf') else none
    | none => none
  | none, none => some (fr, gf)
  | _, _ => none
section
variable {E : Env} {B : BE} {mu mu' : Mu} {w : World} {H : Nat → PH} {TT : List TI} {fr fr' : Fr} {gf gf' : GF} {a : Act} {all rest : List Oper} {Q : Exit → Act → World → Prop} {o : Oper} {J : Act → World → Prop} {G : AG}
theorem OJ_M (hT : TOk E.P TT) {xo : Option SV} {nw : Bool} {k : Nat} {c : Ch} {q : Ob} {es : List Prop} {gs : List GO} {fr0 : Fr} {gf0 : GF} (h : mst TT E.A.ks fr gf mu o.dst o.op = some (xo, nw, k, c, q)) (hs : splitO fr gf [] q [] [] = some (es, gs)) (hmu : mset k c mu = some mu') (hcut : cutF nw k fr gf = some (fr0, gf0))
    (hput : putM E.N xo o.dst fr0 gf0 = some (fr', gf')) (hG : hasK k G.ks = false) (kk : SJ G J E fr' gf' mu') (hg : o.guard = none := by exact rfl) (he : PAlls es := by repeat (first | exact trivial | refine And.intro rfl ?_)) (ho : GAlls gs := by first | exact trivial | ((simp only [GAlls, GO.p, InR]; (repeat' (first | exact trivial | refine And.intro ?_ ?_ | refine fun _ => ?_)) <;> first | omega | (simp only [decide_eq_true_eq, decide_eq_false_iff_not, Int.toNat_natCast] at *; omega) | (simp at *; omega)))) : OJ G E all Q J o fr gf mu := fun B a w H f m gg => by
  obtain ⟨nx, w', B', H', r1, r2, r3, r4, r5, r6⟩ := mst_ok hT f m h (splitO_ok f (fun _ _ hm => by cases hm) hs he ho) hmu hcut
  have gg' : G.ok B' H' := fun j hj => by
    have hjk : j ≠ k := fun e => by subst e; rw [hG] at hj; cases hj
    obtain ⟨e1, e2⟩ := r6 j hjk
    obtain ⟨e3, e4⟩ := gg j hj
    exact ⟨e1.trans e3, e2.trans e4⟩
  unfold putM at hput
  split at hput
  · rename_i x t hd
    split at hput
    · rename_i gf2 hgd
      cases hbt : Nat.blt t E.N with
      | false => rw [hbt] at hput; cases hput
      | true =>
        rw [hbt] at hput
        simp only [cond_true, Option.some.injEq, Prod.mk.injEq] at hput
        obtain ⟨rfl, rfl⟩ := hput
        obtain ⟨v, e1, e2⟩ := r2 _ rfl
        subst e1
        refine one_val (wanted_none hg) r1 ?_
        rw [hd]
        exact kk B' _ w' H' (Fits.put r5 (by simpa [Nat.blt_eq] using hbt) e2 hgd) r4 gg'
    · cases hput
  · rename_i hd
    simp only [Option.some.injEq, Prod.mk.injEq] at hput
    obtain ⟨rfl, rfl⟩ := hput
    have := r3 rfl
    subst this
    refine one_unit (wanted_none hg) r1 ?_
    rw [hd]
    exact kk B' _ w' H' r5 r4 gg'
  · cases hput
end
section
variable {E : Env} {mu : Mu} {TT : List TI} {fr : Fr} {gf gf' : GF} {all rest : List Oper} {Q : Exit → Act → World → Prop} {o : Oper}
end
section
variable {E : Env} {mu : Mu} {TT : List TI} {fr : Fr} {gf gf' : GF} {all : List Oper} {R : Exit → Act → World → Prop} {K : List KF} {G : AG}
end
section
variable {E : Env} {mu mu0 : Mu} {TT : List TI} {fr fr0 : Fr} {gf : GF} {all : List Oper} {R : Exit → Act → World → Prop} {K : List KF} {G : AG}
theorem X_go (hT : TOk E.P TT) {x : Nx} {js : JS} {es : List Prop} {gs : List GO} (ha : goNx (auto TT E.N E.A.ks 400) x fr mu [] [] = some (js, es, gs)) (k : js.ok E R) (he : PAlls es := by repeat (first | exact trivial | refine And.intro rfl ?_)) (ho : GAlls gs := by first | exact trivial | ((simp only [GAlls, GO.p, InR]; (repeat' (first | exact trivial | refine And.intro ?_ ?_ | refine fun _ => ?_)) <;> first | omega | (simp only [decide_eq_true_eq, decide_eq_false_iff_not, Int.toNat_natCast] at *; omega) | (simp at *; omega)))) : X E R x fr mu :=
  (goNx_ok (auto_ok hT 400) ha ⟨he, ho⟩).2 k
end
section
variable {E : Env} {B : BE} {mu mu' : Mu} {w : World} {H : Nat → PH} {TT : List TI} {fr fr' : Fr} {gf gf' : GF} {a : Act} {all rest : List Oper} {Q : Exit → Act → World → Prop} {o : Oper} {J : Act → World → Prop} {G : AG} {R : Exit → Act → World → Prop} {K : List KF}
theorem T_drawL (hT : TOk E.P TT) (ex : List Nat) (is : List Nat) {id : Nat} {l : List Oper} {ks is' tk' : List Nat} {es : List Prop} {gs : List GO} (hks : keysX ex mu = ks) (ha : drun TT E.N l (muR ks mu) is fr [] [] [] [] = some (is', fr', gf', tk', es, gs))
    (k : ∀ B0 H0, DJ ⟨ks, B0, H0⟩ E l (KQ E.P R K) is'.length tk' fr' gf' mu) (hlen : is.length = l.length := by exact rfl) (hR : PQ R := by exact pq_body _ _) (hm : E.P.follows .mixedOrders = true := by kernel_rfl) (hb : tookB l.toArray is is' [] = true := by kernel_rfl)
    (he : PAlls es := by repeat (first | exact trivial | refine And.intro rfl ?_)) (ho : GAlls gs := by first | exact trivial | ((simp only [GAlls, GO.p, InR]; (repeat' (first | exact trivial | refine And.intro ?_ ?_ | refine fun _ => ?_)) <;> first | omega | (simp only [decide_eq_true_eq, decide_eq_false_iff_not, Int.toNat_natCast] at *; omega) | (simp at *; omega)))) : T E R (.region id l.toArray true) fr mu K :=
  T_draw ex l.length hm (by simp) hks fun B0 H0 => by
    have := (drun_took (G := ⟨ks, B0, H0⟩) (K := K) hT hR _ _ _ _ _ _ ha).2 hb ⟨he, ho⟩
    rw [← hlen]
    exact this.2 (k B0 H0)
theorem DJ_onL (hT : TOk E.P TT) (is : List Nat) {tk is' tk' : List Nat} {es : List Prop} {gs : List GO} (ha : drun TT E.N all (muR G.ks mu) is fr gf tk [] [] = some (is', fr', gf', tk', es, gs)) (k : DJ G E all (KQ E.P R K) is'.length tk' fr' gf' mu) (hR : PQ R := by exact pq_body _ _) (hb : tookB all.toArray is is' tk = true := by kernel_rfl)
    (he : PAlls es := by repeat (first | exact trivial | refine And.intro rfl ?_)) (ho : GAlls gs := by first | exact trivial | ((simp only [GAlls, GO.p, InR]; (repeat' (first | exact trivial | refine And.intro ?_ ?_ | refine fun _ => ?_)) <;> first | omega | (simp only [decide_eq_true_eq, decide_eq_false_iff_not, Int.toNat_natCast] at *; omega) | (simp at *; omega)))) : DJ G E all (KQ E.P R K) is.length tk fr gf mu :=
  ((drun_took (G := G) (K := K) hT hR _ _ _ _ _ _ ha).2 hb ⟨he, ho⟩).2 k
theorem DJ_Qi (i : Nat) {n : Nat} {tk : List Nat} {f : Nat} {ks : List Nat} {args : List SV} {mu1 : Mu} {res : SV} (C : Ans E.P f ks args mu1 res) {svs args' : List SV} {g : Option (Nat × Nat × Bool)} {t : Nat} {q : Ob} {es : List Prop} {gs : List GO} (hi : nth all i = some o)
    (hc : callC E.N all fr gf o = some (f, svs, g, t, gf')) (hw : wkSL (muR G.ks mu) [] ks svs = some (args', q)) (hae : SVs.imp E.P args' args) (hs : splitO fr gf (match g with | none => [] | some (_, d, b) => acts 6 gf d b) q [] [] = some (es, gs))
    (k : DJ G E all (KQ E.P R K) n (i :: tk) (frQ fr g t res) (gfQ gf' g t res) mu)
    {x : Value} (hx : exV res = some x := by exact rfl) (hR : PQ R := by exact pq_body _ _) (hb : takeB all.toArray tk i = true := by kernel_rfl)
    (hko : keysO mu1 = [] := by exact rfl) (hres : res.inK ks = true := by exact rfl) (hin : WkIn (muR G.ks mu) mu1 := by repeat (first | exact trivial | refine And.intro ⟨_, rfl, ro_arr⟩ ?_ | refine And.intro ⟨_, rfl, ro_ro⟩ ?_ | refine And.intro ⟨_, rfl, ro_row⟩ ?_ | refine And.intro ⟨_, rfl, Ch.imp_refl _⟩ ?_)) (hen : Enters E.P f := by exact enters_B (by kernel_rfl)) (he : PAlls es := by repeat (first | exact trivial | refine And.intro rfl ?_)) (ho : GAlls gs := by first | exact trivial | ((simp only [GAlls, GO.p, InR]; (repeat' (first | exact trivial | refine And.intro ?_ ?_ | refine fun _ => ?_)) <;> first | omega | (simp only [decide_eq_true_eq, decide_eq_false_iff_not, Int.toNat_natCast] at *; omega) | (simp at *; omega)))) : DJ G E all (KQ E.P R K) (n + 1) tk fr gf mu :=
  DJ_q hR i C hx hi hb hc rfl hen hko hres hw hae hs he ho hin k
end
section
variable {E : Env} {mu : Mu} {fr : Fr} {gf : GF} {all : List Oper} {G : AG}
theorem DJ_sw2 (i : Nat) {n : Nat} {tk : List Nat} {o : Oper} {Q : Exit → Act → World → Prop} (hi : nth all i = some o) (hB : oneB all.toArray tk i = true) (hC : cmpB all.toArray i = true) (h : OJ AG.nil E all Q (fun a' w' => ∃ G' : AG, Sr G' E.r w' ∧ Lw E.P all.toArray Q (Sr G' E.r) n (mk all.toArray.size (i :: tk)) a' w') o fr gf mu) : DJ G E all Q (n + 1) tk fr gf mu := fun B a w H f m gg w2 hb => by
  have hr := oneB_spec hB
  have hi' : all.toArray[i]? = some o := by rw [nth_eq] at hi; simpa using hi
  refine ⟨fun h0 => (by rw [hr] at h0; cases h0), fun j hj => ?_⟩
  rw [hr] at hj
  obtain rfl := List.mem_singleton.1 hj
  have h1 := One.mono (fun a' w' (h : ∃ G' : AG, Sr G' E.r w' ∧ Lw E.P all.toArray Q (Sr G' E.r) n (mk all.toArray.size (j :: tk)) a' w') => (let ⟨_, h1, h2⟩ := h; ⟨_, .inr hC, h1, h2⟩ : ∃ S', (S' = Sr G E.r ∨ cmpB all.toArray j = true) ∧ S' w' ∧ Lw E.P all.toArray Q S' n (mk all.toArray.size (j :: tk)) a' w')) (h B a w2 H f (m.below hb) (AG.nil_ok B H))
  unfold One at h1
  unfold wpOp
  rw [hi', mk_set]
  exact h1
theorem SJ_sw (ks' : List Nat) {n : Nat} {tk : List Nat} {Q : Exit → Act → World → Prop} (h : ∀ B0 H0, DJ ⟨ks', B0, H0⟩ E all Q n tk fr gf mu) : SJ AG.nil (fun a' w' => ∃ G' : AG, Sr G' E.r w' ∧ Lw E.P all.toArray Q (Sr G' E.r) n (mk all.toArray.size tk) a' w') E fr gf mu := fun B a w H f m _ =>
  ⟨⟨ks', B, H⟩, m.sr fun _ _ => ⟨rfl, rfl⟩, h B H B a w H f m fun _ _ => ⟨rfl, rfl⟩⟩
end
end Go.Proofs.YthpjoddhlkcciaaGreat
namespace Go.Proofs.YthpjoddhlkcciaaGreat
open Go Go.RowKit
set_option linter.unusedVariables false
set_option linter.unusedSimpArgs false
set_option maxRecDepth 4000
abbrev machAt (c : GCluster) (r k : Nat) : GMachine := c.machines.getD (mAt c r k).toNat GMachine.z
def cellsOf (m : GMachine) (r : Int) : List GCell := if hasB m r = true then (m.copies.getD (idxI (atB r) m.copies).toNat GCopy.z).cells else []
theorem hasB_idx {m : GMachine} {r : Int} (h : hasB m r = true) : 0 ≤ idxI (atB r) m.copies ∧ idxI (atB r) m.copies < m.copies.length := by
  rcases idxI_cases (atB r) GCopy.z m.copies with ⟨h1, h2⟩ | ⟨i, h1, h2, h3, h4⟩
  · rw [hasB, any_no h2] at h; cases h
  · omega
theorem cellsOf_has {m : GMachine} {r : Int} (h : hasB m r = true) : cellsOf m r = (m.copies.getD (idxI (atB r) m.copies).toNat GCopy.z).cells := by rw [cellsOf, if_pos h]
theorem cells_q (m : GMachine) (hl : m.copies.length ≤ 1048576) (r0 : Int) : Ans Tryz.prog 56 [] [vP (cMachine m), vI r0] [] (vL 2 cCell GCell.z (cellsOf m r0)) := by
  cases h : hasB m r0 with
  | false =>
    refine (cells_none_q m hl r0 h).wkR fun _ _ => ⟨_, _, rfl, ?_, rfl⟩
    rw [cellsOf, if_neg (by rw [h]; simp)]
    intro B Z v e
    have e : v = .slice none 0 0 := e
    subst e
    exact ⟨none, 0, rfl, Nat.le_refl _, Nat.zero_le _, .inl rfl⟩
  | true =>
    rcases idxI_cases (atB r0) GCopy.z m.copies with ⟨h1, h2⟩ | ⟨i, h1, h2, h3, h4⟩
    · rw [hasB, any_no h2] at h; cases h
    · have e : cellsOf m r0 = (m.copies.getD i GCopy.z).cells := by rw [cellsOf_has h, h2]; rfl
      rw [e]
      exact cells_some_q m hl r0 i h1 h3 h4
theorem ClusOk.at {c : GCluster} (h : ClusOk c) {r k : Nat} (hr : r < c.places.length) (hk : k < (c.places.getD r GPlace.z).machines.length) : (0 ≤ mAt c r k ∧ mAt c r k < c.machines.length) ∧ ((machAt c r k).alive = true → hasB (machAt c r k) r = true) := by
  have h1 := pl_nonneg (h.2.1.2 r hr) hk
  have h2 := h.2.2.2.1 r hr k hk
  unfold badAt at h2
  cases c1 : decide (mAt c r k ≥ (c.machines.length : Int)) with
  | true => rw [c1] at h2; cases h2
  | false =>
    rw [c1] at h2
    have := of_decide_eq_false c1
    refine ⟨⟨h1.1, by omega⟩, fun ha => ?_⟩
    change (bif (machAt c r k).alive then !hasB (machAt c r k) r else false) = false at h2
    rw [ha] at h2
    simpa using h2
theorem ClusOk.pl {c : GCluster} (h : ClusOk c) {r : Nat} (hr : r < c.places.length) : 1 ≤ (c.places.getD r GPlace.z).machines.length ∧ (c.places.getD r GPlace.z).machines.length ≤ 3 := (h.2.1.2 r hr).1
theorem ClusOk.mach {c : GCluster} (h : ClusOk c) {r k : Nat} (hr : r < c.places.length) (hk : k < (c.places.getD r GPlace.z).machines.length) : MachOk (machAt c r k) := h.2.2.1 _ (by have := (h.at hr hk).1; omega)
theorem cellsOf_len {m : GMachine} (h : MachOk m) {r : Int} (hh : hasB m r = true) : (cellsOf m r).length = 6 ∧ cellsB (cellsOf m r) = true := by
  have h1 := hasB_idx hh
  rw [cellsOf_has hh]
  have h2 := cells6 h (i := (idxI (atB r) m.copies).toNat) (by omega)
  exact ⟨cellsB_len h2, h2⟩
theorem cellsB_get {xs : List GCell} (h : cellsB xs = true) {i : Nat} (hi : i < xs.length) : badCell (xs.getD i GCell.z) = false := by
  unfold cellsB at h
  cases c : ((xs.length : Int) == 6) with
  | false => rw [c] at h; cases h
  | true => rw [c] at h; exact any_get (by simpa using h) i hi
theorem headB_cell {x : GCell} (h : badCell x = false) : headB x.head = true := by
  unfold badCell at h
  cases c : headB x.head with
  | true => rfl
  | false => rw [c] at h; cases h
end Go.Proofs.YthpjoddhlkcciaaGreat
namespace Go.Proofs.YthpjoddhlkcciaaGreat
open Go Go.RowKit
set_option linter.unusedVariables false
set_option linter.unusedSimpArgs false
set_option maxRecDepth 4000
theorem primary_q (c : GCluster) (r0 : Nat) (hr : r0 < c.places.length) (hp : 0 < (c.places.getD r0 GPlace.z).machines.length) (hin : 0 ≤ mAt c r0 0 ∧ mAt c r0 0 < c.machines.length) : Ans Tryz.prog 55 [] [vP (cCluster c), vI r0] [] (vP (cMachine (machAt c r0 0))) := by
  refine con_enter Tryz.func55 rfl rfl rfl fun B0 r_ D_ w0 => ?_
  refine T_auto TT_ok rfl ?_
  refine T_drawA TT_ok [] rfl rfl fun B0 H0 => ?_
  refine DJ_endA TT_ok rfl ?_
  exact T_ans TT_ok [(4, none)] rfl rfl (rfl)
end Go.Proofs.YthpjoddhlkcciaaGreat
namespace Go.Proofs.YthpjoddhlkcciaaGreat
open Go Go.RowKit
set_option linter.unusedVariables false
set_option linter.unusedSimpArgs false
set_option maxRecDepth 4000
def findI (c : GCluster) (id : Int) : Int := idxI (fun t : GTx => t.id == id) c.txs
theorem findI_in {c : GCluster} {id : Int} (h : 0 ≤ findI c id) : (findI c id).toNat < c.txs.length ∧ (c.txs.getD (findI c id).toNat GTx.z).id = id := by
  rcases idxI_cases (fun t : GTx => t.id == id) GTx.z c.txs with ⟨h1, h2⟩ | ⟨i, h1, h2, h3, h4⟩
  · rw [findI, h1] at h; omega
  · rw [findI, h2]; exact ⟨by simpa using h1, by simpa using h4⟩
theorem findI_lt {c : GCluster} {id : Int} : findI c id < c.txs.length := by
  rcases idxI_cases (fun t : GTx => t.id == id) GTx.z c.txs with ⟨h1, h2⟩ | ⟨i, h1, h2, h3, h4⟩
  · rw [findI, h1]; omega
  · rw [findI, h2]; omega
theorem tx1_q (t : GTx) (id : Int) : Ans Tryz.prog 151 [] [vR (cTx t), vP [dI id]] [] (vB (t.id == id)) := by
  refine con_enter Tryz.func151 rfl rfl rfl fun B0 r_ D_ w0 => ?_
  refine T_auto TT_ok rfl ?_
  exact T_ansB TT_ok [(3, none)] rfl rfl (rfl)
theorem tx_some_q (c : GCluster) (hl : c.txs.length ≤ 1048576) (id : Int) (h : 0 ≤ findI c id) : Ans Tryz.prog 95 [] [vP (cCluster c), vI id] [] (vP (cTx (c.txs.getD (findI c id).toNat GTx.z))) := by
  have hin := findI_in h
  refine con_enter Tryz.func95 rfl rfl rfl fun B0 r_ D_ w0 => ?_
  refine T_auto TT_ok rfl ?_
  refine RJ_QF TT_ok (indexFuncTx_p c.txs hl (fun _ => True) (fun _ _ => trivial) fun t => t.id == id) rfl rfl (SVs.cons (SV.imp_refl _) (SVs.cons (imp_fb (enters_B (by kernel_rfl)) rfl fun args x ⟨n, _, e1, e2⟩ => by subst e1; subst e2; exact tx1_q n _) rfl)) rfl rfl ?_
  refine T_condD rfl (fun e => absurd h (Int.not_le.2 e)) (fun _ => ?_)
  have hx : 0 ≤ idxI (fun t : GTx => t.id == id) c.txs ∧ idxI (fun t : GTx => t.id == id) c.txs < c.txs.length := ⟨h, findI_lt⟩
  refine T_auto TT_ok rfl ?_
  exact T_ans TT_ok [(4, none)] rfl rfl (rfl)
theorem ClusOk.tx {c : GCluster} (h : ClusOk c) {i : Nat} (hi : i < c.txs.length) : TxOk (c.txs.getD i GTx.z) := by
  have h1 := (h.2.2.2.2 i hi).1
  unfold badTx at h1
  cases c1 : dec (TxOk (c.txs.getD i GTx.z)) with
  | true => exact dec_iff.1 c1
  | false => rw [c1] at h1; cases h1
theorem ClusOk.set {c : GCluster} (h : ClusOk c) {i k : Nat} (hi : i < c.txs.length) (hk : k < (c.txs.getD i GTx.z).sets.length) : 0 ≤ ((c.txs.getD i GTx.z).sets.getD k GSet.z).region ∧ ((c.txs.getD i GTx.z).sets.getD k GSet.z).region < c.places.length := by
  have h1 := ((h.tx hi).2.2 k hk).1
  refine ⟨?_, (h.2.2.2.2 i hi).2.2 k hk⟩
  unfold setB at h1
  cases c1 : inB ((c.txs.getD i GTx.z).sets.getD k GSet.z).region 0 5 with
  | true => exact (inB_iff.1 c1).1
  | false => rw [c1] at h1; cases h1
theorem ClusOk.note {c : GCluster} (h : ClusOk c) {i k : Nat} (hi : i < c.txs.length) (hk : k < (c.txs.getD i GTx.z).reads.length) : 0 ≤ ((c.txs.getD i GTx.z).reads.getD k GNote.z).region ∧ ((c.txs.getD i GTx.z).reads.getD k GNote.z).region < c.places.length := by
  have h1 := ((h.tx hi).2.1 k hk).1
  refine ⟨?_, (h.2.2.2.2 i hi).2.1 k hk⟩
  unfold noteB at h1
  cases c1 : inB ((c.txs.getD i GTx.z).reads.getD k GNote.z).region 0 5 with
  | true => exact (inB_iff.1 c1).1
  | false => rw [c1] at h1; cases h1
abbrev MkCells (P : Program) (f : Nat) (args : List SV) (xs : List GCell) (b : Bool) : Prop := Con P f [] args [] (fun _ : Unit => True) (fun _ => [.a (.g 900), vB b]) fun _ => [(900, arrC 2 cCell GCell.z xs)]
theorem l8Primary_c (c : GCluster) (hb : D.bds bigN (cCluster c)) (hok : ClusOk c) (r0 : Int) (hr : 0 ≤ r0 ∧ r0 < c.places.length) : Con Tryz.prog 53 [] [vR (cCluster c), vI r0] [] (fun _ : Unit => True) (fun _ => if (machAt c r0.toNat 0).alive = true then [vI (mAt c r0.toNat 0), vI (idxI (atB r0) (machAt c r0.toNat 0).copies)] else [vI (-1), vI (-1)]) fun _ => [] := by
  have hpl := hok.pl (r := r0.toNat) (by omega)
  have hm := (hok.at (r := r0.toNat) (k := 0) (by omega) (by omega)).1
  have bm := bdM_any hb (mAt c r0.toNat 0).toNat
  refine con_enter Tryz.func53 rfl rfl rfl fun B0 r_ D_ w0 => ?_
  refine T_auto TT_ok rfl ?_
  refine T_condX rfl (fun e => ?_) (fun e => ?_)
  · rw [if_neg (by rw [show (machAt c r0.toNat 0).alive = false from e]; simp)]
    refine T_auto TT_ok rfl ?_
    refine T_ret TT_ok (()) [(4, none), (5, none)] rfl rfl ?_ ?_ ?_
    · exact SVs.imp_refl _
    · trivial
    · trivial
  · rw [if_pos (show (machAt c r0.toNat 0).alive = true from e)]
    refine T_auto TT_ok rfl ?_
    refine RJ_Q TT_ok (l6At_q (machAt c r0.toNat 0) bm.2.1.1 r0) rfl rfl rfl rfl rfl ?_
    refine T_ret TT_ok (()) [(4, none), (5, none)] rfl rfl ?_ ?_ ?_
    · exact SVs.imp_refl _
    · trivial
    · trivial
end Go.Proofs.YthpjoddhlkcciaaGreat
namespace Go.Proofs.YthpjoddhlkcciaaGreat
open Go Go.RowKit
set_option linter.unusedVariables false
set_option linter.unusedSimpArgs false
set_option maxRecDepth 4000
theorem inB_off {r0 : Int} {n : Nat} : inB r0 0 ((n : Int) - 1) = decide (0 ≤ r0 ∧ r0 < n) := by
  rw [Bool.eq_iff_iff, inB_iff, decide_eq_true_eq]; omega
theorem impl_primary_q (c : GCluster) (hok : ClusOk c) (r0 : Int) (hr : 0 ≤ r0 ∧ r0 < c.places.length) : Ans Tryz.prog 55 [] [vP (cCluster c), vI r0] [] (vP (cMachine (machAt c r0.toNat 0))) := by
  have h := primary_q c r0.toNat (by omega) (by have := hok.pl (r := r0.toNat) (by omega); omega) (hok.at (r := r0.toNat) (k := 0) (by omega) (by have := hok.pl (r := r0.toNat) (by omega); omega)).1
  rwa [Int.toNat_of_nonneg hr.1] at h
def checksL (t : GTx) : List GNote := t.reads.filter (noSet t)
structure TxIn (c : GCluster) (t : GTx) : Prop where
  ok : TxOk t
  home : 0 ≤ t.home ∧ t.home < c.machines.length
  note : ∀ k, k < t.reads.length → 0 ≤ (t.reads.getD k GNote.z).region ∧ (t.reads.getD k GNote.z).region < c.places.length
  set : ∀ k, k < t.sets.length → 0 ≤ (t.sets.getD k GSet.z).region ∧ (t.sets.getD k GSet.z).region < c.places.length
theorem checksL_in {c : GCluster} {t : GTx} (h : TxIn c t) {k : Nat} (hk : k < (checksL t).length) : 0 ≤ ((checksL t).getD k GNote.z).region ∧ ((checksL t).getD k GNote.z).region < c.places.length := by
  have hm : (checksL t).getD k GNote.z ∈ t.reads := by
    have : (checksL t).getD k GNote.z = (checksL t)[k] := by rw [List.getD_eq_getElem?_getD, List.getElem?_eq_getElem hk]; rfl
    rw [this]
    exact (List.mem_filter.1 (List.getElem_mem hk)).1
  obtain ⟨j, hj, e⟩ := List.mem_iff_getElem.1 hm
  have h2 := h.note j hj
  rwa [show t.reads.getD j GNote.z = (checksL t).getD k GNote.z from by rw [List.getD_eq_getElem?_getD, List.getElem?_eq_getElem hj]; exact e] at h2
end Go.Proofs.YthpjoddhlkcciaaGreat
namespace Go.Proofs.YthpjoddhlkcciaaGreat
open Go Go.RowKit
set_option linter.unusedVariables false
set_option linter.unusedSimpArgs false
set_option maxRecDepth 4000
theorem marks_le {x : GCluster} (h : wCluster x ≤ 1048576) : (1 : Int) + (sumW mPlace x.places : Nat) + (sumW mMachine x.machines : Nat) + (sumW mTx x.txs : Nat) ≤ 1000000000000 := by
  have := mCluster_le x
  unfold mCluster at this
  omega
theorem marks_of {x : GCluster} (e : ¬ szI 1048576 (wCluster x) < 0) : (1 : Int) + (sumW mPlace x.places : Nat) + (sumW mMachine x.machines : Nat) + (sumW mTx x.txs : Nat) ≤ 1000000000000 := marks_le (by have := (szI_in e).2.2.2; omega)
end Go.Proofs.YthpjoddhlkcciaaGreat
namespace Go.Proofs.YthpjoddhlkcciaaGreat
open Go Go.RowKit
set_option linter.unusedVariables false
set_option linter.unusedSimpArgs false
set_option maxRecDepth 4000
theorem imp_set {α : Type} {sz k : Nat} {enc : α → List D} {z y : α} {xs : List α} {l : List D} (hl : OwnI l (enc y)) : (Ch.arr sz xs.length fun j => bif Nat.beq j k then l else enc (xs.getD j z)).imp (arrC sz enc z (xs.set k y)) :=
  Ch.imp_own (by simp) fun j hj => by
    by_cases c : j = k
    · subst c
      rw [Nat.beq_refl]
      have : (xs.set j y).getD j z = y := by simp [hj]
      rw [this]; exact hl
    · have h1 : Nat.beq j k = false := by
        cases e : Nat.beq j k with
        | false => rfl
        | true => exact absurd (Nat.eq_of_beq_eq_true e) c
      have h2 : (xs.set k y).getD j z = xs.getD j z := by simp [List.getElem?_set_ne (Ne.symm c)]
      rw [h1, h2]; exact OwnI.refl _
end Go.Proofs.YthpjoddhlkcciaaGreat
namespace Go.Proofs.YthpjoddhlkcciaaGreat
open Go Go.RowKit
set_option linter.unusedVariables false
set_option linter.unusedSimpArgs false
set_option maxRecDepth 4000
section
variable {E : Env} {B : BE} {mu mu' : Mu} {w : World} {H : Nat → PH} {TT : List TI} {fr fr' : Fr} {gf gf' : GF} {a : Act} {all rest : List Oper} {Q : Exit → Act → World → Prop} {o : Oper} {J : Act → World → Prop} {G : AG}
end
theorem OwnI.sl {l m : List D} {sz n n' : Nat} {f g : Nat → List D} (hn : n = n') (h : ∀ i, i < n → f i = g i) (k : OwnI l m) : OwnI (.sl sz n f :: l) (.sl sz n' g :: m) := fun hh vs ⟨y, t, h1, h2, e1, e2, e3, e4, e5, e6⟩ =>
  ⟨y, t, h1, h2, e1, e2, e3, e4, by subst hn; exact D.own_congr h e5, k _ _ e6⟩
end Go.Proofs.YthpjoddhlkcciaaGreat
namespace Go.Proofs.YthpjoddhlkcciaaGreat
open Go Go.RowKit
set_option linter.unusedVariables false
set_option linter.unusedSimpArgs false
set_option maxRecDepth 4000
theorem cutAt_uniq {α : Type} {c : α → Int} {z : α} {xs : List α} {i j : Nat} (h : cutAt c z xs i) (k : cutAt c z xs j) : i = j := by
  rcases Nat.lt_trichotomy i j with h1 | h1 | h1
  · exact absurd (k.2.1 i h1) (h.2.2 i (Nat.le_refl _) (by have := k.1; omega))
  · exact h1
  · exact absurd (h.2.1 j h1) (k.2.2 j (Nat.le_refl _) (by have := h.1; omega))
open Classical in
noncomputable def posA {α : Type} (c : α → Int) (z : α) (xs : List α) : Nat := if h : ∃ i, cutAt c z xs i then h.choose else 0
theorem posA_eq {α : Type} {c : α → Int} {z : α} {xs : List α} {i : Nat} (h : cutAt c z xs i) : posA c z xs = i := by
  have hx : ∃ i, cutAt c z xs i := ⟨i, h⟩
  unfold posA
  rw [dif_pos hx]
  exact cutAt_uniq hx.choose_spec h
def insL {α : Type} (p : Nat) (x : α) (xs : List α) : List α := xs.take p ++ x :: xs.drop p
theorem insL_length {α : Type} {p : Nat} {x : α} {xs : List α} (h : p ≤ xs.length) : (insL p x xs).length = xs.length + 1 := by simp [insL]; omega
theorem insL_getD {α : Type} {p : Nat} {x z : α} {xs : List α} (h : p ≤ xs.length) (j : Nat) : (insL p x xs).getD j z = if j < p then xs.getD j z else if j < p + 1 then x else xs.getD (j - 1) z := by
  unfold insL
  by_cases a : j < p
  · rw [if_pos a]
    simp only [List.getD_eq_getElem?_getD]
    rw [List.getElem?_append_left (by simp; omega), List.getElem?_take_of_lt a]
  · rw [if_neg a]
    simp only [List.getD_eq_getElem?_getD]
    rw [List.getElem?_append_right (by simp; omega)]
    have hl : (xs.take p).length = p := by simp; omega
    rw [hl]
    by_cases b : j < p + 1
    · rw [if_pos b]
      have : j - p = 0 := by omega
      rw [this]; simp
    · rw [if_neg b]
      obtain ⟨k, hk⟩ : ∃ k, j - p = k + 1 := ⟨j - p - 1, by omega⟩
      rw [hk, List.getElem?_cons_succ, List.getElem?_drop]
      congr 2; omega
theorem idxI_in {α : Type} {p : α → Bool} {z : α} {xs : List α} (h : 0 ≤ idxI p xs) : (idxI p xs).toNat < xs.length ∧ p (xs.getD (idxI p xs).toNat z) = true := by
  rcases idxI_cases p z xs with ⟨h1, _⟩ | ⟨i, h1, h2, _, h4⟩
  · rw [h1] at h; omega
  · rw [h2]; exact ⟨by simpa using h1, by simpa using h4⟩
theorem any_idx {α : Type} {p : α → Bool} {z : α} {xs : List α} : 0 ≤ idxI p xs ↔ xs.any p = true := by
  constructor
  · intro h
    obtain ⟨h1, h2⟩ := idxI_in (z := z) h
    exact List.any_eq_true.2 ⟨xs.getD (idxI p xs).toNat z, by simp [h1], h2⟩
  · intro h
    rcases idxI_cases p z xs with ⟨h1, h2⟩ | ⟨i, h1, h2, _⟩
    · obtain ⟨x, hx, hp⟩ := List.any_eq_true.1 h
      obtain ⟨a, ha, rfl⟩ := List.mem_iff_getElem.1 hx
      have := h2 a ha
      simp [ha] at this
      rw [this] at hp; cases hp
    · omega
end Go.Proofs.YthpjoddhlkcciaaGreat
namespace Go.Proofs.YthpjoddhlkcciaaGreat
open Go Go.RowKit
set_option linter.unusedVariables false
set_option linter.unusedSimpArgs false
set_option maxRecDepth 4000
theorem ClusOk.home {c : GCluster} (h : ClusOk c) {i : Nat} (hi : i < c.txs.length) : 0 ≤ (c.txs.getD i GTx.z).home ∧ (c.txs.getD i GTx.z).home < c.machines.length := by
  have h1 := (h.tx hi).1.2.1
  have h2 := (h.2.2.2.2 i hi).1
  unfold badTx at h2
  refine ⟨h1.1, ?_⟩
  by_cases c1 : (c.txs.getD i GTx.z).home < c.machines.length
  · exact c1
  · rw [decide_eq_true (show (c.txs.getD i GTx.z).home ≥ (c.machines.length : Int) by omega)] at h2
    simp at h2
end Go.Proofs.YthpjoddhlkcciaaGreat
namespace Go.Proofs.YthpjoddhlkcciaaGreat
open Go Go.RowKit
set_option linter.unusedVariables false
set_option linter.unusedSimpArgs false
section
variable {E : Env} {mu : Mu} {fr : Fr} {R : Exit → Act → World → Prop} {K : List KF}
theorem T_joinA {ι : Type} {c : Code} (u : ι → Fr) (um : ι → Mu) (φ : ι → Prop) (kc kd : List Nat) {fk : Fr} {mk : Mu} (hkf : keepF (modC c []) kc kd fr [] = some fk) (hkm : mdropKs kc mu = some mk)
    (body : T E R c fr mu (.loop (Inv E (fun y => appF (u y) fk) (fun y => appM (um y) mk) φ (fun _ => 0) 1) :: K)) (h : ∀ y, φ y → X E R (nxN K) (appF (u y) fk) (appM (um y) mk)) : T E R c fr mu K := fun B a w H f me => by
  refine wp_mono (body B a w H f me) ?_
  intro e a' w' q
  cases e with
  | normal =>
    obtain ⟨z, z1, z2, B', H', z3, z4⟩ := q
    exact nxN_ok (h z z1 B' a' w' H' z3 z4)
  | exit id => exact q
  | goto l => exact q
  | ret => exact q
  | panic ch => exact q
  | outgrown => exact q
end
section
variable {E : Env} {mu mu' : Mu} {fr fr' : Fr} {gf gf' : GF} {all : List Oper} {G : AG} {Q : Exit → Act → World → Prop}
def View0 (E : Env) (fr : Fr) (gf : GF) (mu : Mu) (fr' : Fr) (gf' : GF) : Prop := ∀ B w H a, FitsE E B H fr gf a → Mem E B mu w H → FitsE E B H fr' gf' a
theorem DJ_v0 {n : Nat} {tk : List Nat} (v : View0 E fr gf mu fr' gf') (h : DJ G E all Q n tk fr' gf' mu) : DJ G E all Q n tk fr gf mu := fun B a w H f m gg => h B a w H (v B w H a f m) m gg
theorem V_pe0 (t : Nat) {k k2 sz n : Nat} {f : Nat → List D} {i : Int} {o : Nat} (ht : mlk t fr = some (.a (.pe k sz i o))) (hg : glk t gf = none) (hk : mlk k mu = some (.hole sz n f i k2)) : View0 E fr gf mu ((t, .a (.p k2 o)) :: fr) gf := fun B w H a ff m => by
  refine ⟨ff.size, ff.defers, fun t' x e1 e2 => ?_, ff.vgf, ff.vgu, fun t' d w x e1 => ?_⟩
  · rw [mlk_cons] at e1
    by_cases h : t = t'
    · subst h
      rw [if_pos rfl] at e1
      injection e1 with e1
      subst e1
      obtain ⟨h1, h2⟩ := (show _ = elP (B k) sz i o ∧ _ from ff.vfr t _ ht e2)
      obtain ⟨A, c, g1, _, _, _, g5, _⟩ := m.mm.sat k _ hk
      refine ⟨?_, h2⟩
      rw [h1, g5, g1]; exact elP_addP
    · rw [if_neg h] at e1; exact ff.vfr t' x e1 e2
  · rw [mlk_cons]
    by_cases h : t = t'
    · subst h
      have := ff.vno t d w x e1
      rw [ht] at this; cases this
    · rw [if_neg h]; exact ff.vno t' d w x e1
end
end Go.Proofs.YthpjoddhlkcciaaGreat
namespace Go.Proofs.YthpjoddhlkcciaaGreat
open Go Go.RowKit
set_option linter.unusedVariables false
set_option linter.unusedSimpArgs false
set_option maxRecDepth 4000
theorem cut_ex {α : Type} {c : α → Int} {z : α} {xs : List α} (h : rising c z xs) : ∃ i, cutAt c z xs i := by
  have key : ∀ k, k ≤ xs.length → (∃ i, cutAt c z xs i) ∨ ∀ a, a < k → c (xs.getD a z) < 0 := fun k => by
    induction k with
    | zero => exact fun _ => .inr fun a ha => absurd ha (Nat.not_lt_zero _)
    | succ k ih =>
      intro hk
      rcases ih (by omega) with h1 | h1
      · exact .inl h1
      · by_cases h2 : c (xs.getD k z) < 0
        · exact .inr fun a ha => by
            by_cases e : a = k
            · subst e; exact h2
            · exact h1 a (by omega)
        · exact .inl ⟨k, by omega, h1, fun a a1 a2 a3 => h2 (h k a a1 a2 a3)⟩
  rcases key xs.length (Nat.le_refl _) with h1 | h1
  · exact h1
  · exact ⟨xs.length, Nat.le_refl _, h1, fun a a1 a2 => by omega⟩
theorem posA_cut {α : Type} {c : α → Int} {z : α} {xs : List α} (h : rising c z xs) : cutAt c z xs (posA c z xs) := by
  obtain ⟨i, hi⟩ := cut_ex h
  rw [posA_eq hi]; exact hi
section
variable {α : Type} {reg slot : α → Int} {z x : α} {xs : List α}
theorem pair_get {R : α → α → Prop} (h : xs.Pairwise R) {a b : Nat} (hab : a < b) (hb : b < xs.length) : R (xs.getD a z) (xs.getD b z) := by
  have := List.pairwise_iff_getElem.1 h a b (by omega) hb hab
  simpa [hb, show a < xs.length by omega] using this
end
theorem pair_of {α : Type} {R : α → α → Prop} {z : α} : ∀ {xs : List α}, (∀ a b, a < b → b < xs.length → R (xs.getD a z) (xs.getD b z)) → xs.Pairwise R := fun {xs} h => by
  rw [List.pairwise_iff_getElem]
  intro i j hi hj hij
  have := h i j hij hj
  simpa [hi, hj] using this
theorem getD_mem {α : Type} {z : α} {xs : List α} {i : Nat} (h : i < xs.length) : xs.getD i z ∈ xs := by simp [h]
theorem set_get {α : Type} {z y : α} {xs : List α} {p : Nat} (hp : p < xs.length) (i : Nat) : (xs.set p y).getD i z = if i = p then y else xs.getD i z := by
  by_cases c : i = p
  · subst c; rw [if_pos rfl]; simp [hp]
  · rw [if_neg c]; simp [List.getElem?_set_ne (Ne.symm c)]
theorem setB_iff {x : GSet} : setB x = true ↔ (0 ≤ x.region ∧ x.region ≤ 5) ∧ (0 ≤ x.slot ∧ x.slot ≤ 5) ∧ (-1000000000 ≤ x.value ∧ x.value ≤ 1000000000) ∧ (0 ≤ x.version ∧ x.version ≤ 999999) := by
  rw [← inB_iff, ← inB_iff, ← inB_iff, ← inB_iff]
  unfold setB
  cases inB x.region 0 5 <;> cases inB x.slot 0 5 <;> cases inB x.value (-1000000000) 1000000000 <;> cases inB x.version 0 999999 <;> simp
end Go.Proofs.YthpjoddhlkcciaaGreat
namespace Go.Proofs.YthpjoddhlkcciaaGreat
open Go Go.RowKit
set_option linter.unusedVariables false
set_option linter.unusedSimpArgs false
set_option maxRecDepth 4000
def cellAt (c : GCluster) (r s : Int) : GCell := (cellsOf (machAt c r.toNat 0) r).getD s.toNat GCell.z
end Go.Proofs.YthpjoddhlkcciaaGreat
namespace Go.Proofs.YthpjoddhlkcciaaGreat
open Go Go.RowKit
set_option linter.unusedVariables false
set_option linter.unusedSimpArgs false
set_option maxRecDepth 4000
theorem all_getD {α : Type} {z : α} {P : α → Prop} {xs : List α} (h : ∀ i, i < xs.length → P (xs.getD i z)) : ∀ x ∈ xs, P x := fun x hx => by
  obtain ⟨i, hi, rfl⟩ := List.mem_iff_getElem.1 hx
  have := h i hi
  simpa [hi] using this
end Go.Proofs.YthpjoddhlkcciaaGreat
namespace Go.Proofs.YthpjoddhlkcciaaGreat
open Go Go.RowKit
set_option linter.unusedVariables false
set_option linter.unusedSimpArgs false
set_option maxRecDepth 4000
theorem foldl_take {α β : Type} {z : α} (f : β → α → β) (b : β) {xs : List α} {k : Nat} (h : k < xs.length) : (xs.take (k + 1)).foldl f b = f ((xs.take k).foldl f b) (xs.getD k z) := by
  rw [take_succ_getD (z := z) h, List.foldl_append]; rfl
def cellS (xs : List GCell) (s : GSet) : GCell := xs.getD s.slot.toNat GCell.z
def instC (s : GSet) : GCell := ⟨4 * (s.version + 1) + (bif s.used then 2 else 0), bif s.used then s.value else 0⟩
def instF (xs : List GCell) (s : GSet) : List GCell := if (cellS xs s).head.tdiv 4 > s.version then xs else xs.set s.slot.toNat (instC s)
def instL (xs : List GCell) (sets : List GSet) : List GCell := sets.foldl instF xs
theorem cellsB_iff {xs : List GCell} : cellsB xs = true ↔ xs.length = 6 ∧ ∀ x ∈ xs, badCell x = false := by
  unfold cellsB
  constructor
  · intro h
    cases c : ((xs.length : Int) == 6) with
    | false => rw [c] at h; cases h
    | true =>
      rw [c] at h
      refine ⟨by have := beq_iff_eq.1 c; omega, fun x hx => ?_⟩
      cases e : badCell x with
      | false => rfl
      | true =>
        have : xs.any badCell = true := List.any_eq_true.2 ⟨x, hx, e⟩
        rw [this] at h; cases h
  · rintro ⟨h1, h2⟩
    rw [show ((xs.length : Int) == 6) = true from beq_iff_eq.2 (by omega)]
    have : xs.any badCell = false := by
      cases e : xs.any badCell with
      | false => rfl
      | true =>
        obtain ⟨x, hx, e2⟩ := List.any_eq_true.1 e
        rw [h2 x hx] at e2; cases e2
    rw [this]; rfl
theorem badCell_iff {x : GCell} : badCell x = false ↔ (0 ≤ x.head ∧ x.head ≤ 4000003) ∧ (-1000000000 ≤ x.value ∧ x.value ≤ 1000000000) ∧ ((x.head / 2) % 2 = 1 ∨ x.value = 0) := by
  unfold badCell usedB headB valB
  cases h1 : inB x.head 0 4000003 with
  | false =>
    have : ¬ (0 ≤ x.head ∧ x.head ≤ 4000003) := fun h => by rw [inB_iff.2 h] at h1; cases h1
    simp [this]
  | true =>
    have g1 := inB_iff.1 h1
    cases h2 : inB x.value (-1000000000) 1000000000 with
    | false =>
      have : ¬ (-1000000000 ≤ x.value ∧ x.value ≤ 1000000000) := fun h => by rw [inB_iff.2 h] at h2; cases h2
      simp [this]
    | true =>
      have g2 := inB_iff.1 h2
      have e1 : x.head.tdiv 2 = x.head / 2 := tdiv_nn g1.1
      have e2 : (x.head / 2).tmod 2 = x.head / 2 % 2 := tmod_nn (by omega)
      rw [e1, e2]
      simp [g1, g2]
      by_cases c : x.head / 2 % 2 = 1 <;> simp [c]
theorem set_mem {xs : List GCell} {i : Nat} {y : GCell} {P : GCell → Prop} (h : ∀ x ∈ xs, P x) (hy : P y) : ∀ x ∈ xs.set i y, P x := fun x hx => by
  rcases List.mem_or_eq_of_mem_set hx with hx | rfl
  · exact h x hx
  · exact hy
theorem cellS_mem {xs : List GCell} {s : GSet} (h : xs.length = 6) (hs : setB s = true) : cellS xs s ∈ xs := by
  have := (setB_iff.1 hs).2.1
  exact getD_mem (by omega)
theorem instF_ok {xs : List GCell} {s : GSet} (h : cellsB xs = true) (hs : setB s = true) : cellsB (instF xs s) = true := by
  obtain ⟨h1, h2⟩ := cellsB_iff.1 h
  have h3 := setB_iff.1 hs
  unfold instF
  split
  · exact h
  · refine cellsB_iff.2 ⟨by rw [List.length_set]; exact h1, set_mem h2 (badCell_iff.2 ?_)⟩
    unfold instC
    cases s.used <;> simp <;> omega
theorem foldl_ok {f : List GCell → GSet → List GCell} (hf : ∀ xs s, cellsB xs = true → setB s = true → cellsB (f xs s) = true) : ∀ {sets : List GSet} {xs : List GCell}, (∀ s ∈ sets, setB s = true) → cellsB xs = true → cellsB (sets.foldl f xs) = true
  | [], _, _, h => h
  | s :: r, xs, hs, h => by
    rw [List.foldl_cons]
    exact foldl_ok hf (fun t ht => hs t (by simp [ht])) (hf xs s h (hs s (by simp)))
end Go.Proofs.YthpjoddhlkcciaaGreat
namespace Go.Proofs.YthpjoddhlkcciaaGreat
open Go Go.RowKit
set_option linter.unusedVariables false
set_option linter.unusedSimpArgs false
set_option maxRecDepth 4000
section
variable {α : Type} {z : α} {key idx : α → Int}
def lx (key idx : α → Int) (x y : α) : Prop := key x < key y ∨ key x = key y ∧ idx x < idx y
def srt (key idx : α → Int) (z : α) (xs : List α) (a b : Nat) : Prop := ∀ i j, a ≤ i → i < j → j < b → lx key idx (xs.getD i z) (xs.getD j z)
def low (idx : α → Int) (z : α) (xs : List α) (a m b : Nat) : Prop := ∀ i j, a ≤ i → i < m → m ≤ j → j < b → idx (xs.getD i z) < idx (xs.getD j z)
theorem lx.trans {x y w : α} (h : lx key idx x y) (k : lx key idx y w) : lx key idx x w := by
  unfold lx at *; omega
theorem lx.of {x y : α} (h : key x ≤ key y) (k : idx x < idx y) : lx key idx x y := by
  unfold lx; omega
theorem lx_key {x y : α} (h : lx key idx x y) : key x ≤ key y := by
  unfold lx at h; omega
structure pm (z : α) (xs ys : List α) (a b : Nat) : Prop where
  perm : ys.Perm xs
  out : ∀ k, (k < a ∨ b ≤ k) → ys.getD k z = xs.getD k z
  mem : ∀ k, a ≤ k → k < b → ∃ k', a ≤ k' ∧ k' < b ∧ ys.getD k z = xs.getD k' z
theorem pm.refl (xs : List α) (a b : Nat) : pm z xs xs a b := ⟨List.Perm.refl _, fun _ _ => rfl, fun k h1 h2 => ⟨k, h1, h2, rfl⟩⟩
theorem pm.len {xs ys : List α} {a b : Nat} (h : pm z xs ys a b) : ys.length = xs.length := h.perm.length_eq
theorem pm.trans {xs ys ws : List α} {a b : Nat} (h : pm z xs ys a b) (k : pm z ys ws a b) : pm z xs ws a b := ⟨k.perm.trans h.perm, fun i hi => (k.out i hi).trans (h.out i hi), fun i h1 h2 => by
  obtain ⟨j, j1, j2, j3⟩ := k.mem i h1 h2
  obtain ⟨l, l1, l2, l3⟩ := h.mem j j1 j2
  exact ⟨l, l1, l2, j3.trans l3⟩⟩
theorem pm.sub {xs ys : List α} {a b a' b' : Nat} (h : pm z xs ys a' b') (ha : a ≤ a') (hb : b' ≤ b) : pm z xs ys a b := ⟨h.perm, fun k hk => h.out k (by omega), fun k h1 h2 => by
  by_cases c : a' ≤ k ∧ k < b'
  · obtain ⟨j, j1, j2, j3⟩ := h.mem k c.1 c.2
    exact ⟨j, by omega, by omega, j3⟩
  · exact ⟨k, h1, h2, h.out k (by omega)⟩⟩
def swp (z : α) (xs : List α) (i j : Nat) : List α := (xs.set i (xs.getD j z)).set j (xs.getD i z)
theorem swp_get {xs : List α} {i j : Nat} (hi : i < xs.length) (hj : j < xs.length) (k : Nat) : (swp z xs i j).getD k z = if k = j then xs.getD i z else if k = i then xs.getD j z else xs.getD k z := by
  unfold swp
  rw [set_get (by rw [List.length_set]; exact hj)]
  split
  · rfl
  · rw [set_get hi]
theorem swp_pm {xs : List α} {i j a b : Nat} (hi : a ≤ i ∧ i < b) (hj : a ≤ j ∧ j < b) (hb : b ≤ xs.length) : pm z xs (swp z xs i j) a b := by
  have h1 : i < xs.length := by omega
  have h2 : j < xs.length := by omega
  refine ⟨?_, fun k hk => ?_, fun k k1 k2 => ?_⟩
  · have := @List.set_set_perm _ xs i j h1 h2
    unfold swp
    rw [show xs.getD j z = xs[j] from by simp [h2], show xs.getD i z = xs[i] from by simp [h1]]
    exact this
  · rw [swp_get h1 h2, if_neg (by omega), if_neg (by omega)]
  · rw [swp_get h1 h2]
    by_cases c : k = j
    · rw [if_pos c]; exact ⟨i, hi.1, hi.2, rfl⟩
    · rw [if_neg c]
      by_cases c2 : k = i
      · rw [if_pos c2]; exact ⟨j, hj.1, hj.2, rfl⟩
      · rw [if_neg c2]; exact ⟨k, k1, k2, rfl⟩
structure isRot (z : α) (xs ys : List α) (a m b : Nat) : Prop where
  pm : pm z xs ys a b
  lo : ∀ k, k < b - m → ys.getD (a + k) z = xs.getD (m + k) z
  hi : ∀ k, k < m - a → ys.getD (a + (b - m) + k) z = xs.getD (a + k) z
structure Halves (key idx : α → Int) (z : α) (ys : List α) (a s mid e b : Nat) : Prop where
  s1 : srt key idx z ys a s
  s2 : srt key idx z ys s mid
  s3 : srt key idx z ys mid e
  s4 : srt key idx z ys e b
  l1 : low idx z ys a s mid
  l2 : low idx z ys mid e b
  cross : ∀ i j, a ≤ i → i < mid → mid ≤ j → j < b → lx key idx (ys.getD i z) (ys.getD j z)
theorem halves {xs ys : List α} {a s m e b : Nat} (h1 : a ≤ s) (h2 : s ≤ m) (h3 : m ≤ e) (h4 : e ≤ b) (hr : isRot z xs ys s m e) (hl : srt key idx z xs a m) (hh : srt key idx z xs m b) (hlo : low idx z xs a m b)
    (c1 : ∀ i j, a ≤ i → i < s → e ≤ j → j < b → key (xs.getD i z) ≤ key (xs.getD j z)) (c2 : ∀ i j, m ≤ i → i < e → s ≤ j → j < m → key (xs.getD i z) < key (xs.getD j z)) : Halves key idx z ys a s (s + (e - m)) e b := by
  have g1 : ∀ i, i < s → ys.getD i z = xs.getD i z := fun i hi => hr.pm.out i (.inl hi)
  have g2 : ∀ i, s ≤ i → i < s + (e - m) → ys.getD i z = xs.getD (m + (i - s)) z := fun i q1 q2 => by
    have := hr.lo (i - s) (by omega)
    rw [show s + (i - s) = i by omega] at this; exact this
  have g3 : ∀ i, s + (e - m) ≤ i → i < e → ys.getD i z = xs.getD (s + (i - (s + (e - m)))) z := fun i q1 q2 => by
    have := hr.hi (i - (s + (e - m))) (by omega)
    rw [show s + (e - m) + (i - (s + (e - m))) = i by omega] at this; exact this
  have g4 : ∀ i, e ≤ i → ys.getD i z = xs.getD i z := fun i hi => hr.pm.out i (.inr hi)
  refine ⟨fun i j q1 q2 q3 => ?_, fun i j q1 q2 q3 => ?_, fun i j q1 q2 q3 => ?_, fun i j q1 q2 q3 => ?_, fun i j q1 q2 q3 q4 => ?_, fun i j q1 q2 q3 q4 => ?_, fun i j q1 q2 q3 q4 => ?_⟩
  · rw [g1 i (by omega), g1 j q3]; exact hl i j q1 q2 (by omega)
  · rw [g2 i q1 (by omega), g2 j (by omega) q3]; exact hh _ _ (by omega) (by omega) (by omega)
  · rw [g3 i q1 (by omega), g3 j (by omega) q3]; exact hl _ _ (by omega) (by omega) (by omega)
  · rw [g4 i q1, g4 j (by omega)]; exact hh i j (by omega) q2 q3
  · rw [g1 i q2, g2 j q3 q4]; exact hlo _ _ q1 (by omega) (by omega) (by omega)
  · rw [g3 i q1 q2, g4 j q3]; exact hlo _ _ (by omega) (by omega) (by omega) (by omega)
  · by_cases k1 : i < s
    · rw [g1 i k1]
      by_cases k2 : j < e
      · rw [g3 j q3 k2]; exact hl _ _ q1 (by omega) (by omega)
      · rw [g4 j (by omega)]; exact lx.of (c1 i j q1 k1 (by omega) q4) (hlo i j q1 (by omega) (by omega) q4)
    · rw [g2 i (by omega) q2]
      by_cases k2 : j < e
      · rw [g3 j q3 k2]; exact .inl (c2 _ _ (by omega) (by omega) (by omega) (by omega))
      · rw [g4 j (by omega)]; exact hh _ _ (by omega) (by omega) q4
theorem glue {ys ws : List α} {a mid b : Nat} (h1 : a ≤ mid) (h2 : mid ≤ b) (hc : ∀ i j, a ≤ i → i < mid → mid ≤ j → j < b → lx key idx (ys.getD i z) (ys.getD j z)) {us : List α} (p1 : pm z ys us a mid) (q1 : srt key idx z us a mid) (p2 : pm z us ws mid b) (q2 : srt key idx z ws mid b) : srt key idx z ws a b ∧ pm z ys ws a b := by
  refine ⟨fun i j k1 k2 k3 => ?_, (p1.sub (Nat.le_refl _) h2).trans (p2.sub h1 (Nat.le_refl _))⟩
  by_cases c1 : j < mid
  · rw [p2.out i (.inl (by omega)), p2.out j (.inl c1)]; exact q1 i j k1 k2 c1
  · by_cases c2 : mid ≤ i
    · exact q2 i j c2 k2 k3
    · rw [p2.out i (.inl (by omega))]
      obtain ⟨i', i1, i2, i3⟩ := p1.mem i k1 (by omega)
      obtain ⟨j', j1, j2, j3⟩ := p2.mem j (by omega) k3
      rw [i3, j3, p1.out j' (.inr j1)]
      exact hc i' j' i1 i2 j1 j2
theorem base1 {xs ys : List α} {a b i : Nat} (h1 : a + 1 ≤ i) (h2 : i ≤ b) (hh : srt key idx z xs (a + 1) b) (hlo : low idx z xs a (a + 1) b) (k1 : ∀ k, a + 1 ≤ k → k < i → key (xs.getD k z) < key (xs.getD a z)) (k2 : ∀ k, i ≤ k → k < b → ¬ key (xs.getD k z) < key (xs.getD a z)) (hr : isRot z xs ys a (a + 1) i) : srt key idx z ys a b := by
  have H := halves (key := key) (idx := idx) (Nat.le_refl a) (by omega) h1 h2 hr (fun p q q1 q2 q3 => by omega) hh hlo (fun p q q1 q2 => by omega) (fun p q q1 q2 q3 q4 => by
    have : q = a := by omega
    subst this
    exact k1 p q1 q2)
  have hm : srt key idx z ys (a + (i - (a + 1))) b := fun p q q1 q2 q3 => by
    by_cases c : p < i
    · have e : ys.getD p z = xs.getD a z := by
        have := hr.hi 0 (by omega)
        rw [show a + (i - (a + 1)) + 0 = p by omega] at this; exact this
      rw [e, hr.pm.out q (.inr (by omega))]
      exact lx.of (by have := k2 q (by omega) q3; omega) (hlo a q (Nat.le_refl _) (by omega) (by omega) q3)
    · exact H.s4 p q (by omega) q2 q3
  exact (glue (by omega) (by omega) H.cross (pm.refl ys a _) H.s2 (pm.refl ys _ b) hm).1
theorem base2 {xs ys : List α} {a m i : Nat} (h1 : a ≤ i) (h2 : i ≤ m) (hl : srt key idx z xs a m) (hlo : low idx z xs a m (m + 1)) (k1 : ∀ k, a ≤ k → k < i → ¬ key (xs.getD m z) < key (xs.getD k z)) (k2 : ∀ k, i ≤ k → k < m → key (xs.getD m z) < key (xs.getD k z)) (hr : isRot z xs ys i m (m + 1)) : srt key idx z ys a (m + 1) := by
  have H := halves (key := key) (idx := idx) h1 h2 (by omega) (Nat.le_refl _) hr hl (fun p q q1 q2 q3 => by omega) hlo (fun p q q1 q2 q3 q4 => by omega) (fun p q q1 q2 q3 q4 => by
    have : p = m := by omega
    subst this
    exact k2 q q3 q4)
  have hm : srt key idx z ys a (i + (m + 1 - m)) := fun p q q1 q2 q3 => by
    by_cases c : q < i
    · exact H.s1 p q q1 q2 c
    · have e : ys.getD q z = xs.getD m z := by
        have := hr.lo 0 (by omega)
        rw [show i + 0 = q by omega, show m + 0 = m by omega] at this; exact this
      rw [e, hr.pm.out p (.inl (by omega))]
      exact lx.of (by have := k1 p q1 (by omega); omega) (hlo p m q1 (by omega) (Nat.le_refl _) (by omega))
  exact (glue (by omega) (by omega) H.cross (pm.refl ys a _) hm (pm.refl ys _ (m + 1)) H.s3).1
theorem search_ok {xs : List α} {a m b n start : Nat} (ham : a < m) (hmb : m < b) (hn : n = (a + b) / 2 + m) (hl : srt key idx z xs a m) (hh : srt key idx z xs m b) (hs : (if m > (a + b) / 2 then n - b else a) ≤ start) (hs2 : start ≤ (if m > (a + b) / 2 then (a + b) / 2 else m))
    (k1 : ∀ c, (if m > (a + b) / 2 then n - b else a) ≤ c → c < start → key (xs.getD c z) ≤ key (xs.getD (n - 1 - c) z)) (k2 : ∀ c, start ≤ c → c < (if m > (a + b) / 2 then (a + b) / 2 else m) → key (xs.getD (n - 1 - c) z) < key (xs.getD c z)) :
    (a ≤ start ∧ start ≤ m ∧ m ≤ n - start ∧ n - start ≤ b ∧ start + (n - start - m) = (a + b) / 2) ∧ (∀ i j, a ≤ i → i < start → n - start ≤ j → j < b → key (xs.getD i z) ≤ key (xs.getD j z)) ∧ ∀ i j, m ≤ i → i < n - start → start ≤ j → j < m → key (xs.getD i z) < key (xs.getD j z) := by
  have hmid : 2 * ((a + b) / 2) ≤ a + b ∧ a + b ≤ 2 * ((a + b) / 2) + 1 := by omega
  generalize (a + b) / 2 = mid at *
  subst hn
  have key1 : ∀ i j, a ≤ i → i ≤ j → j < m → key (xs.getD i z) ≤ key (xs.getD j z) := fun i j q1 q2 q3 => by
    by_cases e : i = j
    · subst e; exact Int.le_refl _
    · exact lx_key (hl i j q1 (by omega) q3)
  have key2 : ∀ i j, m ≤ i → i ≤ j → j < b → key (xs.getD i z) ≤ key (xs.getD j z) := fun i j q1 q2 q3 => by
    by_cases e : i = j
    · subst e; exact Int.le_refl _
    · exact lx_key (hh i j q1 (by omega) q3)
  by_cases c : m > mid
  · rw [if_pos c] at hs hs2 k1 k2
    refine ⟨by omega, fun i j q1 q2 q3 q4 => ?_, fun i j q1 q2 q3 q4 => ?_⟩
    · have h := k1 (start - 1) (by omega) (by omega)
      have e1 := key1 i (start - 1) q1 (by omega) (by omega)
      have e2 := key2 (mid + m - 1 - (start - 1)) j (by omega) (by omega) q4
      omega
    · have h := k2 start (Nat.le_refl _) (by omega)
      have e1 := key1 start j (by omega) q3 q4
      have e2 := key2 i (mid + m - 1 - start) q1 (by omega) (by omega)
      omega
  · rw [if_neg c] at hs hs2 k1 k2
    refine ⟨by omega, fun i j q1 q2 q3 q4 => ?_, fun i j q1 q2 q3 q4 => ?_⟩
    · have h := k1 (start - 1) (by omega) (by omega)
      have e1 := key1 i (start - 1) q1 (by omega) (by omega)
      have e2 := key2 (mid + m - 1 - (start - 1)) j (by omega) (by omega) q4
      omega
    · have h := k2 start (Nat.le_refl _) (by omega)
      have e1 := key1 start j (by omega) q3 q4
      have e2 := key2 i (mid + m - 1 - start) q1 (by omega) (by omega)
      omega
end
end Go.Proofs.YthpjoddhlkcciaaGreat
namespace Go.Proofs.YthpjoddhlkcciaaGreat
open Go Go.RowKit
set_option linter.unusedVariables false
set_option linter.unusedSimpArgs false
set_option maxRecDepth 4000
section
variable {α : Type} {z : α} {key idx : α → Int}
structure isSwap (z : α) (xs ys : List α) (p q n : Nat) : Prop where
  perm : ys.Perm xs
  out : ∀ k, ¬ (p ≤ k ∧ k < p + n) → ¬ (q ≤ k ∧ k < q + n) → ys.getD k z = xs.getD k z
  fst : ∀ k, k < n → ys.getD (p + k) z = xs.getD (q + k) z
  snd : ∀ k, k < n → ys.getD (q + k) z = xs.getD (p + k) z
theorem isSwap.zero (xs : List α) (p q : Nat) : isSwap z xs xs p q 0 := ⟨List.Perm.refl _, fun _ _ _ => rfl, fun k hk => absurd hk (Nat.not_lt_zero _), fun k hk => absurd hk (Nat.not_lt_zero _)⟩
theorem isSwap.succ {xs ys : List α} {p q n : Nat} (h : isSwap z xs ys p q n) (hpq : p + n < q) (hq : q + n < xs.length) : isSwap z xs (swp z ys (p + n) (q + n)) p q (n + 1) := by
  have hl : ys.length = xs.length := h.perm.length_eq
  have g := swp_get (z := z) (xs := ys) (i := p + n) (j := q + n) (by omega) (by omega)
  have e1 : ys.getD (p + n) z = xs.getD (p + n) z := h.out _ (by omega) (by omega)
  have e2 : ys.getD (q + n) z = xs.getD (q + n) z := h.out _ (by omega) (by omega)
  refine ⟨(swp_pm (z := z) (a := 0) (b := ys.length) (by omega) (by omega) (Nat.le_refl _)).perm.trans h.perm, fun k k1 k2 => ?_, fun k hk => ?_, fun k hk => ?_⟩
  · rw [g, if_neg (by omega), if_neg (by omega)]; exact h.out k (by omega) (by omega)
  · rw [g, if_neg (by omega)]
    by_cases c : k = n
    · subst c; rw [if_pos rfl, e2]
    · rw [if_neg (by omega)]; exact h.fst k (by omega)
  · rw [g]
    by_cases c : k = n
    · subst c; rw [if_pos rfl, e1]
    · rw [if_neg (by omega), if_neg (by omega)]; exact h.snd k (by omega)
theorem isSwap.pm {xs ys : List α} {p q n a b : Nat} (h : isSwap z xs ys p q n) (h1 : a ≤ p) (h2 : p + n ≤ q) (h3 : q + n ≤ b) : pm z xs ys a b := ⟨h.perm, fun k hk => h.out k (by omega) (by omega), fun k k1 k2 => by
  by_cases c1 : p ≤ k ∧ k < p + n
  · have := h.fst (k - p) (by omega)
    rw [show p + (k - p) = k by omega] at this
    exact ⟨q + (k - p), by omega, by omega, this⟩
  · by_cases c2 : q ≤ k ∧ k < q + n
    · have := h.snd (k - q) (by omega)
      rw [show q + (k - q) = k by omega] at this
      exact ⟨p + (k - q), by omega, by omega, this⟩
    · exact ⟨k, k1, k2, h.out k c1 c2⟩⟩
structure RotI (z : α) (xs ys : List α) (a m b i j : Nat) : Prop where
  pm : pm z xs ys a b
  le : a + i ≤ m ∧ m + j ≤ b
  t1 : ∀ k, a ≤ k → k < m - i → ys.getD k z = (if k < a + (b - m) then xs.getD (m + (k - a)) z else xs.getD (a + (k - (a + (b - m)))) z)
  t2 : ∀ k, m + j ≤ k → k < b → ys.getD k z = (if k < a + (b - m) then xs.getD (m + (k - a)) z else xs.getD (a + (k - (a + (b - m)))) z)
  t3 : ∀ k, k < j → ys.getD (m + k) z = (if m - i + k < a + (b - m) then xs.getD (m + (m - i + k - a)) z else xs.getD (a + (m - i + k - (a + (b - m)))) z)
  t4 : ∀ k, k < i → ys.getD (m - i + k) z = (if m - i + j + k < a + (b - m) then xs.getD (m + (m - i + j + k - a)) z else xs.getD (a + (m - i + j + k - (a + (b - m)))) z)
theorem RotI.first {xs : List α} {a m b : Nat} (h1 : a ≤ m) (h2 : m ≤ b) : RotI z xs xs a m b (m - a) (b - m) := by
  refine ⟨pm.refl _ _ _, by omega, fun k k1 k2 => by omega, fun k k1 k2 => by omega, fun k hk => ?_, fun k hk => ?_⟩
  · rw [if_pos (by omega)]; congr 1; omega
  · rw [if_neg (by omega)]; congr 1; omega
theorem RotI.left {xs ys ws : List α} {a m b i j : Nat} (h : RotI z xs ys a m b i j) (hij : j < i) (hs : isSwap z ys ws (m - i) m j) : RotI z xs ws a m b (i - j) j := by
  have hle := h.le
  refine ⟨h.pm.trans (hs.pm (by omega) (by omega) (by omega)), by omega, fun k k1 k2 => ?_, fun k k1 k2 => ?_, fun k hk => ?_, fun k hk => ?_⟩
  · by_cases c : k < m - i
    · rw [hs.out k (by omega) (by omega)]; exact h.t1 k k1 c
    · have := hs.fst (k - (m - i)) (by omega)
      rw [show m - i + (k - (m - i)) = k by omega] at this
      rw [this]
      have := h.t3 (k - (m - i)) (by omega)
      rw [show m - i + (k - (m - i)) = k by omega] at this
      exact this
  · rw [hs.out k (by omega) (by omega)]; exact h.t2 k k1 k2
  · rw [hs.snd k hk]
    have := h.t4 k (by omega)
    rw [this, show m - (i - j) + k = m - i + j + k by omega]
  · rw [show m - (i - j) + k = m - i + (j + k) by omega, hs.out _ (by omega) (by omega), h.t4 (j + k) (by omega), show m - i + j + (j + k) = m - (i - j) + j + k by omega]
theorem RotI.right {xs ys ws : List α} {a m b i j : Nat} (h : RotI z xs ys a m b i j) (hij : i < j) (hs : isSwap z ys ws (m - i) (m + j - i) i) : RotI z xs ws a m b i (j - i) := by
  have hle := h.le
  refine ⟨h.pm.trans (hs.pm (by omega) (by omega) (by omega)), by omega, fun k k1 k2 => ?_, fun k k1 k2 => ?_, fun k hk => ?_, fun k hk => ?_⟩
  · rw [hs.out k (by omega) (by omega)]; exact h.t1 k k1 k2
  · by_cases c : k < m + j
    · have := hs.snd (k - (m + j - i)) (by omega)
      rw [show m + j - i + (k - (m + j - i)) = k by omega] at this
      rw [this]
      have := h.t4 (k - (m + j - i)) (by omega)
      rw [show m - i + j + (k - (m + j - i)) = k by omega] at this
      exact this
    · rw [hs.out k (by omega) (by omega)]; exact h.t2 k (by omega) k2
  · rw [hs.out _ (by omega) (by omega)]; exact h.t3 k (by omega)
  · rw [hs.fst k hk]
    have := h.t3 (j - i + k) (by omega)
    rw [show m + (j - i + k) = m + j - i + k by omega] at this
    rw [this, show m - i + (j - i + k) = m - i + (j - i) + k by omega]
theorem RotI.last {xs ys ws : List α} {a m b i : Nat} (hm : a ≤ m ∧ m ≤ b) (h : RotI z xs ys a m b i i) (hs : isSwap z ys ws (m - i) m i) : isRot z xs ws a m b := by
  have hle := h.le
  have hall : ∀ k, a ≤ k → k < b → ws.getD k z = (if k < a + (b - m) then xs.getD (m + (k - a)) z else xs.getD (a + (k - (a + (b - m)))) z) := fun k k1 k2 => by
    by_cases c1 : k < m - i
    · rw [hs.out k (by omega) (by omega)]; exact h.t1 k k1 c1
    · by_cases c2 : k < m
      · have e := hs.fst (k - (m - i)) (by omega)
        rw [show m - i + (k - (m - i)) = k by omega] at e
        rw [e]
        have := h.t3 (k - (m - i)) (by omega)
        rw [show m - i + (k - (m - i)) = k by omega] at this
        exact this
      · by_cases c3 : k < m + i
        · have e := hs.snd (k - m) (by omega)
          rw [show m + (k - m) = k by omega] at e
          rw [e]
          have := h.t4 (k - m) (by omega)
          rw [show m - i + i + (k - m) = k by omega] at this
          exact this
        · rw [hs.out k (by omega) (by omega)]; exact h.t2 k (by omega) k2
  refine ⟨h.pm.trans (hs.pm (by omega) (by omega) (by omega)), fun k hk => ?_, fun k hk => ?_⟩
  · rw [hall _ (by omega) (by omega), if_pos (by omega), show a + k - a = k by omega]
  · rw [hall _ (by omega) (by omega), if_neg (by omega), show a + (b - m) + k - (a + (b - m)) = k by omega]
structure InsI (key idx : α → Int) (z : α) (ys : List α) (a j i : Nat) : Prop where
  s1 : ∀ p q, a ≤ p → p < q → q ≤ i → p ≠ j → q ≠ j → lx key idx (ys.getD p z) (ys.getD q z)
  s2 : ∀ q, j < q → q ≤ i → key (ys.getD j z) < key (ys.getD q z)
  s3 : ∀ p, a ≤ p → p ≤ i → p ≠ j → idx (ys.getD p z) < idx (ys.getD j z)
theorem InsI.first {ys : List α} {a i : Nat} (h : srt key idx z ys a i) (hlo : low idx z ys a i (i + 1)) : InsI key idx z ys a i i := ⟨fun p q p1 p2 p3 p4 p5 => h p q p1 p2 (by omega), fun q q1 q2 => by omega, fun p p1 p2 p3 => hlo p i p1 (by omega) (Nat.le_refl _) (by omega)⟩
theorem InsI.step {ys : List α} {a j i : Nat} (h : InsI key idx z ys a j i) (hj : a < j) (hji : j ≤ i) (hi : i < ys.length) (hk : key (ys.getD j z) < key (ys.getD (j - 1) z)) : InsI key idx z (swp z ys j (j - 1)) a (j - 1) i := by
  have g := swp_get (z := z) (xs := ys) (i := j) (j := j - 1) (by omega) (by omega)
  have e0 : (swp z ys j (j - 1)).getD (j - 1) z = ys.getD j z := by rw [g, if_pos rfl]
  have e1 : (swp z ys j (j - 1)).getD j z = ys.getD (j - 1) z := by rw [g, if_neg (by omega), if_pos rfl]
  have e2 : ∀ k, k ≠ j → k ≠ j - 1 → (swp z ys j (j - 1)).getD k z = ys.getD k z := fun k k1 k2 => by rw [g, if_neg k2, if_neg k1]
  refine ⟨fun p q p1 p2 p3 p4 p5 => ?_, fun q q1 q2 => ?_, fun p p1 p2 p3 => ?_⟩
  · by_cases c1 : p = j
    · subst c1
      rw [e1, e2 q (by omega) (by omega)]
      exact h.s1 _ _ (by omega) (by omega) p3 (by omega) (by omega)
    · rw [e2 p c1 p4]
      by_cases c2 : q = j
      · subst c2; rw [e1]; exact h.s1 _ _ p1 (by omega) (by omega) (by omega) (by omega)
      · rw [e2 q c2 p5]; exact h.s1 _ _ p1 p2 p3 c1 c2
  · rw [e0]
    by_cases c : q = j
    · subst c; rw [e1]; exact hk
    · rw [e2 q c (by omega)]; exact h.s2 q (by omega) q2
  · rw [e0]
    by_cases c : p = j
    · subst c; rw [e1]; exact h.s3 _ (by omega) (by omega) (by omega)
    · rw [e2 p c p3]; exact h.s3 p p1 p2 c
theorem InsI.stop {ys : List α} {a j i : Nat} (h : InsI key idx z ys a j i) (haj : a ≤ j) (hji : j ≤ i) (hk : a < j → ¬ key (ys.getD j z) < key (ys.getD (j - 1) z)) : srt key idx z ys a (i + 1) := fun p q p1 p2 p3 => by
  by_cases c1 : p = j
  · rw [c1]; exact .inl (h.s2 q (by omega) (by omega))
  · by_cases c2 : q = j
    · rw [c2]
      have h1 := hk (by omega)
      have h2 : key (ys.getD p z) ≤ key (ys.getD (j - 1) z) := by
        by_cases c3 : p = j - 1
        · rw [c3]; exact Int.le_refl _
        · exact lx_key (h.s1 p (j - 1) p1 (by omega) (by omega) (by omega) (by omega))
      exact lx.of (by omega) (h.s3 p p1 (by omega) c1)
    · exact h.s1 p q p1 p2 (by omega) c1 c2
theorem srt_pair {xs : List α} (h : srt key idx z xs 0 xs.length) : xs.Pairwise (lx key idx) := pair_of (z := z) fun a b hab hb => h a b (Nat.zero_le _) hab hb
theorem one_order {xs ys : List α} (h1 : xs.Pairwise (lx key idx)) (h2 : ys.Pairwise (lx key idx)) (hp : xs.Perm ys) : xs = ys := List.Perm.eq_of_pairwise (le := lx key idx) (fun a b _ _ k1 k2 => by unfold lx at k1 k2; omega) h1 h2 hp
end
end Go.Proofs.YthpjoddhlkcciaaGreat
namespace Go.Proofs.YthpjoddhlkcciaaGreat
open Go Go.RowKit
set_option linter.unusedVariables false
set_option linter.unusedSimpArgs false
set_option maxRecDepth 4000
section
variable {α : Type} {z : α} {key idx : α → Int}
def putI (key : α → Int) (z t : α) (out : List α) : Nat → Nat
  | 0 => 0
  | k + 1 => if key (out.getD k z) > key t then putI key z t out k else k + 1
theorem putI_le {t : α} {out : List α} : ∀ k, putI key z t out k ≤ k
  | 0 => Nat.le_refl _
  | k + 1 => by
    rw [putI]
    split
    · exact Nat.le_succ_of_le (putI_le k)
    · exact Nat.le_refl _
theorem putI_above {t : α} {out : List α} : ∀ k j, putI key z t out k ≤ j → j < k → key t < key (out.getD j z)
  | 0, j, _, h => absurd h (Nat.not_lt_zero _)
  | k + 1, j, h1, h2 => by
    rw [putI] at h1
    split at h1
    · rename_i c
      by_cases e : j = k
      · subst e; omega
      · exact putI_above k j h1 (by omega)
    · omega
theorem putI_below {t : α} {out : List α} : ∀ k, 0 < putI key z t out k → key (out.getD (putI key z t out k - 1) z) ≤ key t
  | 0, h => absurd h (Nat.not_lt_zero _)
  | k + 1, h => by
    rw [putI] at h ⊢
    by_cases c : key (out.getD k z) > key t
    · rw [if_pos c] at h ⊢; exact putI_below k h
    · rw [if_neg c, Nat.add_sub_cancel]; omega
def ordN (key : α → Int) (z : α) (p : α → Bool) (xs : List α) : Nat → List α
  | 0 => []
  | i + 1 => if p (xs.getD i z) = true then insL (putI key z (xs.getD i z) (ordN key z p xs i) (ordN key z p xs i).length) (xs.getD i z) (ordN key z p xs i) else ordN key z p xs i
theorem insL_perm {k : Nat} {x : α} {xs : List α} : (insL k x xs).Perm (x :: xs) := by
  unfold insL
  have h := List.perm_middle (a := x) (l₁ := xs.take k) (l₂ := xs.drop k)
  rwa [List.take_append_drop] at h
theorem put_sorted {t : α} {out : List α} (h : out.Pairwise (lx key idx)) (hi : ∀ x ∈ out, idx x < idx t) : (insL (putI key z t out out.length) t out).Pairwise (lx key idx) := by
  have hle := putI_le (key := key) (z := z) (t := t) (out := out) out.length
  have hab := putI_above (key := key) (z := z) (t := t) (out := out) out.length
  have hbe := putI_below (key := key) (z := z) (t := t) (out := out) out.length
  generalize putI key z t out out.length = k at hle hab hbe
  refine pair_of (z := z) fun a b h1 h2 => ?_
  rw [insL_length hle] at h2
  rw [insL_getD hle, insL_getD hle]
  by_cases c1 : a < k
  · rw [if_pos c1]
    by_cases c2 : b < k
    · rw [if_pos c2]; exact pair_get (z := z) h h1 (by omega)
    · rw [if_neg c2]
      by_cases c3 : b < k + 1
      · rw [if_pos c3]
        have e := hbe (by omega)
        have e2 : key (out.getD a z) ≤ key (out.getD (k - 1) z) := by
          by_cases c4 : a = k - 1
          · rw [c4]; exact Int.le_refl _
          · exact lx_key (pair_get (z := z) h (a := a) (b := k - 1) (by omega) (by omega))
        exact lx.of (by omega) (hi _ (getD_mem (z := z) (by omega)))
      · rw [if_neg c3]; exact pair_get (z := z) h (by omega) (by omega)
  · rw [if_neg c1, if_neg (show ¬ b < k by omega), if_neg (show ¬ b < k + 1 by omega)]
    by_cases c2 : a < k + 1
    · rw [if_pos c2]; exact .inl (hab (b - 1) (by omega) (by omega))
    · rw [if_neg c2]; exact pair_get (z := z) h (by omega) (by omega)
theorem ordN_ok {p : α → Bool} {xs : List α} (hx : ∀ i j, i < j → j < xs.length → idx (xs.getD i z) < idx (xs.getD j z)) : ∀ n, n ≤ xs.length → (ordN key z p xs n).Pairwise (lx key idx) ∧ (ordN key z p xs n).Perm ((xs.take n).filter p)
  | 0, _ => ⟨List.Pairwise.nil, List.Perm.refl _⟩
  | n + 1, hn => by
    obtain ⟨h1, h2⟩ := ordN_ok (p := p) hx n (by omega)
    rw [ordN, take_succ_getD (z := z) (by omega), List.filter_append]
    by_cases c : p (xs.getD n z) = true
    · rw [if_pos c]
      have e : [xs.getD n z].filter p = [xs.getD n z] := by simp only [List.filter, c]
      rw [e]
      refine ⟨put_sorted h1 fun x hm => ?_, insL_perm.trans ((List.Perm.cons _ h2).trans (List.perm_append_singleton _ _).symm)⟩
      have hm2 := (List.mem_filter.1 (h2.mem_iff.1 hm)).1
      obtain ⟨i, hi, e2⟩ := List.mem_iff_getElem.1 hm2
      have hi2 := hi
      rw [List.length_take] at hi2
      rw [List.getElem_take] at e2
      have e3 : xs.getD i z = x := by rw [← e2]; simp [List.getD_eq_getElem?_getD, show i < xs.length by omega]
      rw [← e3]
      exact hx i n (by omega) (by omega)
    · rw [if_neg c]
      have e : [xs.getD n z].filter p = [] := by
        have c : p (xs.getD n z) = false := by simpa using c
        simp only [List.filter, c]
      rw [e, List.append_nil]
      exact ⟨h1, h2⟩
theorem ord_one {p : α → Bool} {xs ys : List α} (hx : ∀ i j, i < j → j < xs.length → idx (xs.getD i z) < idx (xs.getD j z)) (h1 : ys.Perm (xs.filter p)) (h2 : srt key idx z ys 0 ys.length) : ys = ordN key z p xs xs.length := by
  obtain ⟨g1, g2⟩ := ordN_ok (key := key) (p := p) hx xs.length (Nat.le_refl _)
  rw [List.take_length] at g2
  exact one_order (srt_pair h2) g1 (h1.trans g2.symm)
end
end Go.Proofs.YthpjoddhlkcciaaGreat
namespace Go.Proofs.YthpjoddhlkcciaaGreat
open Go Go.RowKit
set_option linter.unusedVariables false
set_option linter.unusedSimpArgs false
set_option maxRecDepth 4000
abbrev Regs := List (List GCell)
def cellRR (rs : Regs) (r s : Int) : GCell := (rs.getD r.toNat []).getD s.toNat GCell.z
def noteN (rs : Regs) (n : GNote) : Bool := bif (bif verI (cellRR rs n.region n.slot).head != n.version then true else (cellRR rs n.region n.slot).value != n.value) then true else usedB (cellRR rs n.region n.slot).head != n.used
def noteI (rs : Regs) (n : GNote) : Bool := !(decide ((cellRR rs n.region n.slot).head = 4 * n.version + (bif n.used then 2 else 0)) && decide ((cellRR rs n.region n.slot).value = n.value))
def verX (rs : Regs) (s : GSet) : Bool := verI (cellRR rs s.region s.slot).head != s.version
def inst1 (rs : Regs) (s : GSet) : Regs := rs.set s.region.toNat (instF (rs.getD s.region.toNat []) s)
structure RegOk (rs : Regs) (n : Nat) : Prop where
  len : rs.length = n
  ok : ∀ r, r < n → cellsB (rs.getD r []) = true
  free : ∀ r, r < n → ∀ s, s < 6 → lockedB ((rs.getD r []).getD s GCell.z).head = false
theorem RegOk.head {rs : Regs} {n : Nat} (h : RegOk rs n) {r s : Int} (hr : 0 ≤ r ∧ r < n) (hs : 0 ≤ s ∧ s ≤ 5) : headB (cellRR rs r s).head = true ∧ (cellRR rs r s).head % 2 = 0 := by
  obtain ⟨h1, h2⟩ := cellsB_iff.1 (h.ok r.toNat (by omega))
  have h3 := (badCell_iff.1 (h2 _ (getD_mem (z := GCell.z) (i := s.toNat) (by omega)))).1
  have h4 := h.free r.toNat (by omega) s.toNat (by omega)
  have hb : headB (cellRR rs r s).head = true := headB_iff.2 h3
  refine ⟨hb, ?_⟩
  have h4 : lockedB (cellRR rs r s).head = false := h4
  unfold lockedB at h4
  have h3 : 0 ≤ (cellRR rs r s).head ∧ (cellRR rs r s).head ≤ 4000003 := h3
  rw [hb, cond_true, tmod_nn h3.1] at h4
  have : ¬ (cellRR rs r s).head % 2 = 1 := by simpa using h4
  omega
theorem note_eq {rs : Regs} {n : Nat} (h : RegOk rs n) {x : GNote} (hr : 0 ≤ x.region ∧ x.region < n) (hs : 0 ≤ x.slot ∧ x.slot ≤ 5) : noteI rs x = noteN rs x := by
  obtain ⟨h1, h2⟩ := h.head hr hs
  have h3 := headB_iff.1 h1
  unfold noteI noteN usedB
  rw [ver4 h1, h1, cond_true]
  generalize cellRR rs x.region x.slot = y at h2 h3
  rw [tdiv_nn h3.1, tdiv_nn h3.1, tmod_nn (by omega)]
  by_cases c1 : y.value = x.value
  · rw [decide_eq_true c1, c1]
    cases hu : x.used with
    | true =>
      by_cases c2 : y.head = 4 * x.version + 2
      · rw [cond_true, decide_eq_true c2]
        have e1 : y.head / 4 = x.version := by omega
        have e2 : y.head / 2 % 2 = 1 := by omega
        rw [e1, e2]; simp
      · rw [cond_true, decide_eq_false c2]
        by_cases c3 : y.head / 4 = x.version
        · have e2 : ¬ y.head / 2 % 2 = 1 := by omega
          simp [c3, e2]
        · simp [c3]
    | false =>
      by_cases c2 : y.head = 4 * x.version + 0
      · rw [cond_false, decide_eq_true c2]
        have e1 : y.head / 4 = x.version := by omega
        have e2 : ¬ y.head / 2 % 2 = 1 := by omega
        rw [e1]; simp [e2]
      · rw [cond_false, decide_eq_false c2]
        by_cases c3 : y.head / 4 = x.version
        · have e2 : y.head / 2 % 2 = 1 := by omega
          simp [c3, e2]
        · simp [c3]
  · rw [decide_eq_false c1]
    simp [c1]
theorem regs0_ok (n : Nat) : RegOk (List.replicate n (List.replicate 6 GCell.z)) n := by
  have e : ∀ r, r < n → (List.replicate n (List.replicate 6 GCell.z)).getD r [] = List.replicate 6 GCell.z := fun r hr => by
    simp [List.getD_eq_getElem?_getD, List.getElem?_replicate, hr]
  refine ⟨List.length_replicate, fun r hr => by rw [e r hr]; decide, fun r hr s hs => ?_⟩
  rw [e r hr]
  have : (List.replicate 6 GCell.z).getD s GCell.z = GCell.z := by
    have : s = 0 ∨ s = 1 ∨ s = 2 ∨ s = 3 ∨ s = 4 ∨ s = 5 := by omega
    rcases this with h | h | h | h | h | h <;> subst h <;> rfl
  rw [this]; decide
theorem inst1_ok {rs : Regs} {n : Nat} (h : RegOk rs n) {s : GSet} (hs : setB s = true) (hr : 0 ≤ s.region ∧ s.region < n) : RegOk (inst1 rs s) n := by
  have h0 := setB_iff.1 hs
  have hlt : s.region.toNat < rs.length := by rw [h.len]; omega
  have hg : ∀ r, (inst1 rs s).getD r [] = if r = s.region.toNat then instF (rs.getD s.region.toNat []) s else rs.getD r [] := fun r => set_get hlt r
  refine ⟨by unfold inst1; rw [List.length_set]; exact h.len, fun r hr2 => ?_, fun r hr2 k hk => ?_⟩
  · rw [hg]
    split
    · exact instF_ok (h.ok _ (by omega)) hs
    · exact h.ok r hr2
  · rw [hg]
    split
    · have h6 := (cellsB_iff.1 (h.ok s.region.toNat (by omega))).1
      unfold instF
      split
      · exact h.free _ (by omega) k hk
      · rw [set_get (show s.slot.toNat < (rs.getD s.region.toNat []).length by omega)]
        split
        · have hi : 0 ≤ (instC s).head ∧ (instC s).head ≤ 4000003 ∧ (instC s).head % 2 = 0 := by
            unfold instC
            cases s.used <;> simp <;> omega
          unfold lockedB
          rw [headB_iff.2 ⟨hi.1, hi.2.1⟩, cond_true, tmod_nn hi.1, hi.2.2]; rfl
        · exact h.free _ (by omega) k hk
    · exact h.free r hr2 k hk
theorem insts_ok {n : Nat} : ∀ {sets : List GSet} {rs : Regs}, (∀ s ∈ sets, setB s = true ∧ 0 ≤ s.region ∧ s.region < n) → RegOk rs n → RegOk (sets.foldl inst1 rs) n
  | [], _, _, h => h
  | s :: r, rs, hs, h => by
    rw [List.foldl_cons]
    exact insts_ok (fun x hx => hs x (by simp [hx])) (inst1_ok h (hs s (by simp)).1 (hs s (by simp)).2)
def stepT (rs : Regs) (t : GTx) : Option Regs := if t.reads.any (noteN rs) = true then none else if t.sets.any (verX rs) = true then none else some (t.sets.foldl inst1 rs)
def repL (rs : Regs) (l : List GTx) : Option Regs := l.foldl (fun o t => o.bind fun q => stepT q t) (some rs)
theorem repL_succ {rs : Regs} {l : List GTx} {k : Nat} (h : k < l.length) : repL rs (l.take (k + 1)) = (repL rs (l.take k)).bind fun q => stepT q (l.getD k GTx.z) := by
  unfold repL
  rw [take_succ_getD (z := GTx.z) h, List.foldl_append]; rfl
theorem rep_none (l : List GTx) : l.foldl (fun (o : Option Regs) t => o.bind fun q => stepT q t) none = none := by
  induction l with
  | nil => rfl
  | cons a r ih => rw [List.foldl_cons]; exact ih
theorem repL_stop {rs : Regs} {l : List GTx} {k : Nat} (h : repL rs (l.take k) = none) : repL rs l = none := by
  have e : l = l.take k ++ l.drop k := (List.take_append_drop k l).symm
  unfold repL at h ⊢
  rw [e, List.foldl_append, h]
  exact rep_none _
theorem stepT_ok {rs q : Regs} {n : Nat} {t : GTx} (h : RegOk rs n) (hs : ∀ s ∈ t.sets, setB s = true ∧ 0 ≤ s.region ∧ s.region < n) (e : stepT rs t = some q) : RegOk q n := by
  unfold stepT at e
  split at e
  · cases e
  · split at e
    · cases e
    · injection e with e; subst e; exact insts_ok hs h
end Go.Proofs.YthpjoddhlkcciaaGreat
namespace Go.Proofs.YthpjoddhlkcciaaGreat
open Go Go.RowKit
set_option linter.unusedVariables false
set_option linter.unusedSimpArgs false
set_option maxRecDepth 4000
section
variable {E : Env} {B : BE} {mu mu' : Mu} {w : World} {H : Nat → PH} {TT : List TI} {fr fr' : Fr} {gf gf' : GF} {a : Act} {all rest : List Oper} {Q : Exit → Act → World → Prop} {R : Exit → Act → World → Prop} {K : List KF}
theorem X_fin {ι : Type} {fn : Func} {φ : ι → Prop} {res : ι → List SV} {mu' : ι → Mu} (hT : TOk E.P TT) (y : ι) (ts : List (Nat × Option Nat)) (hr : fn.results = (ts.map rvOf).toArray) {l : List SV} (hl : allGetC TT fr mu ts = some l) (h1 : SVs.imp E.P l (res y)) (h2 : WkMu mu (mu' y)) (h3 : φ y) :
    X E (bodyPost E.P fn (RetP E φ res mu')) .fin fr mu := fun B a w H f m => by
  obtain ⟨out, r1, r2⟩ := allGetC_run hT f m.mr hl
  show bodyPost _ _ _ .normal a w
  refine ⟨f.defers, resV out, ?_, y, B, H, out, h3, rfl, SVs.imp_ok h1 r2, m.wk h2⟩
  unfold results
  rw [hr, Sem.run_bind, Array.mapM_eq_mapM_toList, Sem.run_map, List.toList_toArray]
  erw [r1]
  have e : ∀ l : List Value, (if h : l.toArray.size = 1 then l.toArray[0] else Value.tuple l.toArray) = resV l := fun l => by
    rw [← resV_eq]; simp
  exact congrArg (Result.ok · w) (e out)
end
end Go.Proofs.YthpjoddhlkcciaaGreat
namespace Go.Proofs.YthpjoddhlkcciaaGreat
open Go Go.RowKit
set_option linter.unusedVariables false
set_option linter.unusedSimpArgs false
section
variable {E : Env} {mu mu' : Mu} {TT : List TI} {fr fr' : Fr} {gf gf' : GF} {all rest : List Oper} {R : Exit → Act → World → Prop} {K : List KF}
theorem RJ_fin (hT : TOk E.P TT) {es : List Prop} {gs : List GO} (h : run TT E.N E.A.ks all rest fr gf mu [] [] = some ([], fr', gf', mu', es, gs)) (k : X E R (nxN K) fr' mu') (he : PAlls es := by repeat (first | exact trivial | refine And.intro rfl ?_)) (ho : GAlls gs := by first | exact trivial | ((simp only [GAlls, GO.p, InR]; (repeat' (first | exact trivial | refine And.intro ?_ ?_ | refine fun _ => ?_)) <;> first | omega | (simp only [decide_eq_true_eq, decide_eq_false_iff_not, Int.toNat_natCast] at *; omega) | (simp at *; omega)))) : RJ E all (KQ E.P R K) rest fr gf mu :=
  (run_ok hT _ _ _ _ _ _ h ⟨he, ho⟩).2 (RJ_end k)
end
section
variable {P : Program}
end
end Go.Proofs.YthpjoddhlkcciaaGreat
namespace Go.Proofs.YthpjoddhlkcciaaGreat
open Go Go.RowKit
set_option linter.unusedVariables false
set_option linter.unusedSimpArgs false
section
variable {E : Env} {mu mu' : Mu} {TT : List TI} {fr fr' : Fr} {gf gf' : GF} {all : List Oper} {R : Exit → Act → World → Prop} {K : List KF} {G : AG} {Q : Exit → Act → World → Prop}
end
section
variable {E : Env} {mu : Mu} {fr : Fr} {gf : GF} {all : List Oper} {G : AG} {Q : Exit → Act → World → Prop} {B : BE} {w : World} {H : Nat → PH} {a : Act}
theorem Mem.name (m : Mem E B mu w H) {k : Nat} (v : Value) (h1 : muAny (V.uses k) k mu = false) (h2 : hasK k E.A.ks = false) (h3 : mlk k mu = none) : Mem E (BE.set B k v) mu w H := by
  refine ⟨⟨fun j d e => ?_, m.mm.fit, m.mm.dj, m.mm.djr, m.mm.fitr⟩, m.keep, m.dom, fun j hj => ?_⟩
  · have hj : j ≠ k := fun e2 => by subst e2; rw [h3] at e; cases e
    exact Ch.sat_setB v hj (muAny_get (muAny_mono (fun x hx => (uses_out hx).1) h1) j d hj e) (m.mm.sat j d e)
  · have : j ≠ k := fun e => by rw [e, h2] at hj; cases hj
    rw [BE.set_ne B v this]; exact m.anch j hj
theorem FitsE.name (f : FitsE E B H fr gf a) {k : Nat} (v : Value) (h1 : frAny (V.uses k) fr = false) (h2 : gfAny (V.uses k) gf = false) : FitsE E (BE.set B k v) H fr gf a :=
  Fits.keep f h1 h2 (PH.le_refl _) fun _ _ hx e => V.rel_setB v (uses_out hx).1 e
end
end Go.Proofs.YthpjoddhlkcciaaGreat
namespace Go.Proofs.YthpjoddhlkcciaaGreat
open Go Go.RowKit
set_option linter.unusedVariables false
set_option linter.unusedSimpArgs false
section
variable {E : Env} {mu : Mu} {TT : List TI} {fr : Fr} {gf gf' : GF} {all : List Oper} {G : AG} {Q : Exit → Act → World → Prop} {J : Act → World → Prop}
theorem OJ_pst (hT : TOk E.P TT) {o : Oper} {t : Nat} {x : SV} {q : Ob} {es : List Prop} {gs : List GO} (hp : pst TT fr gf mu [] o.op = some (x, q)) (hs : splitO fr gf [] q [] [] = some (es, gs)) (hgd : gdrop t gf = some gf')
    (k : SJ G J E ((t, x) :: fr) gf' mu) (hg : o.guard = none := by exact rfl) (hd : o.dst = some t := by exact rfl) (ht : Nat.blt t E.N = true := by exact rfl) (he : PAlls es := by repeat (first | exact trivial | refine And.intro rfl ?_)) (ho : GAlls gs := by first | exact trivial | ((simp only [GAlls, GO.p, InR]; (repeat' (first | exact trivial | refine And.intro ?_ ?_ | refine fun _ => ?_)) <;> first | omega | (simp only [decide_eq_true_eq, decide_eq_false_iff_not, Int.toNat_natCast] at *; omega) | (simp at *; omega)))) : OJ G E all Q J o fr gf mu := fun B a w H f m gg => by
  obtain ⟨v, r1, r2⟩ := pst_ok hT f m.mr.ms (g := []) (fun _ _ hm => by cases hm) hp (splitO_ok f (fun _ _ hm => by cases hm) hs he ho)
  refine one_val (wanted_none hg) (r1 w m.mr.fw) ?_
  rw [hd]
  exact k B _ w H (Fits.put f (by simpa [Nat.blt_eq] using ht) r2 hgd) m gg
theorem DJ_imp (k : Nat) {n : Nat} {tk : List Nat} {mu' : Mu} {c c' : Ch} (hk : mlk k mu = some c) (h : c.imp c') (hmu : mset k c' mu = some mu') (d : DJ G E all Q n tk fr gf mu') : DJ G E all Q n tk fr gf mu := fun B a w H f m gg =>
  d B a w H f ⟨⟨fun j d e => by
    rw [mset_spec hmu j] at e
    by_cases hj : j = k
    · rw [if_pos hj] at e; injection e with e; subst e; subst hj; exact h _ _ _ _ (m.mm.sat j c hk)
    · rw [if_neg hj] at e; exact m.mm.sat j d e, m.mm.fit, m.mm.dj, m.mm.djr, m.mm.fitr⟩, m.keep, m.dom, m.anch⟩ gg
end
end Go.Proofs.YthpjoddhlkcciaaGreat
namespace Go.Proofs.YthpjoddhlkcciaaGreat
open Go Go.RowKit
set_option linter.unusedVariables false
set_option linter.unusedSimpArgs false
set_option maxRecDepth 4000
abbrev SH := Option Addr × Nat × Nat
abbrev RT := GTx × SH × SH
abbrev vS (h : SH) : D := .v (.slice h.1 h.2.1 h.2.2)
abbrev eT (p : RT) : List D := [dI p.1.id, dI p.1.home, dI p.1.phase, dI p.1.done, vS p.2.1, vS p.2.2, dI p.1.stamp]
abbrev zT : RT := (GTx.z, (none, 0, 0), (none, 0, 0))
abbrev kT (p : RT) : Int := p.1.stamp
abbrev iT (p : RT) : Int := p.1.id
abbrev cmpT : SV := fbO (fun x : RT × RT => [RD.ag (eT x.1), RD.ag (eT x.2)]) fun x => .int .i64 (ordI x.1.1.stamp x.2.1.stamp)
theorem swapRange_c (xs : List RT) (hl : xs.length ≤ 1048576) (p q n : Nat) (h1 : p + n ≤ q) (h2 : q + n ≤ xs.length) :
    Con Tryz.prog 220 [900] [.a (.g 900), vI p, vI q, vI n, cmpT] [(900, arrC 7 eT zT xs)] (fun ys : List RT => isSwap zT xs ys p q n) (fun _ => []) fun ys => [(900, arrC 7 eT zT ys)] := by
  refine con_enter Tryz.func220 rfl rfl rfl fun B0 r_ D_ w0 => ?_
  refine T_auto TT_ok rfl ?_
  refine T_loopA (ι := Nat × List RT) (fun s => [(10, vI s.1)]) (fun s => [(900, arrC 7 eT zT s.2)]) (fun s => s.1 ≤ n ∧ isSwap zT xs s.2 p q s.1) (fun s => n - s.1) (0, xs) [900] [] rfl rfl ⟨Nat.zero_le _, isSwap.zero xs p q⟩ (by repeat (first | exact trivial | refine And.intro ⟨_, rfl, SV.imp_refl _⟩ ?_)) (by repeat (first | exact trivial | refine And.intro ⟨_, rfl, Ch.imp_refl _⟩ ?_)) ?_
  rintro ⟨i, ys⟩ ⟨k1, k2⟩
  have hlen := k2.perm.length_eq
  dsimp only at k1 k2 hlen ⊢
  refine T_auto TT_ok rfl ?_
  refine T_condD rfl (fun e => ?_) (fun e => ?_)
  · have hi : i < n := by omega
    refine T_auto TT_ok rfl ?_
    have hsw : (Ch.arr 7 (ys.set ((p : Int) + i).toNat (ys.getD ((q : Int) + i).toNat zT)).length fun j => bif Nat.beq j ((q : Int) + i).toNat then eT (ys.getD ((p : Int) + i).toNat zT) else eT ((ys.set ((p : Int) + i).toNat (ys.getD ((q : Int) + i).toNat zT)).getD j zT)).imp (arrC 7 eT zT (swp zT ys (p + i) (q + i))) := imp_set (y := ys.getD (p + i) zT) (OwnI.refl _)
    refine T_drawL TT_ok [900] [0, 1, 2, 3, 4, 5, 6, 7, 8, 9, 10, 11, 14, 15, 16, 17, 12, 13, 18, 19, 20, 21, 22, 23] rfl rfl fun B0 H0 => ?_
    refine DJ_two 12 18 rfl rfl (by kernel_rfl) (OJ_pst TT_ok rfl rfl rfl (SJ_dj ?_)) (OJ_pst TT_ok rfl rfl rfl (SJ_dj ?_))
    · refine DJ_two 13 18 rfl rfl (by kernel_rfl) (OJ_pst TT_ok rfl rfl rfl (SJ_dj ?_)) (OJ_pst TT_ok rfl rfl rfl (SJ_dj ?_))
      · refine DJ_one 18 rfl (by kernel_rfl) (OJ_pst TT_ok rfl rfl rfl (SJ_dj ?_))
        refine DJ_one 19 rfl (by kernel_rfl) (OJ_pst TT_ok rfl rfl rfl (SJ_dj ?_))
        (refine DJ_one 20 rfl (by kernel_rfl) (OJ_pst TT_ok rfl rfl rfl (SJ_dj ?_)); refine DJ_one 21 rfl (by kernel_rfl) (OJ_M TT_ok rfl rfl rfl rfl rfl rfl (SJ_dj ?_)); refine DJ_imp 900 rfl (imp_set (y := ys.getD ((q : Int) + i).toNat zT) (OwnI.refl _)) rfl ?_; refine DJ_one 22 rfl (by kernel_rfl) (OJ_pst TT_ok rfl rfl rfl (SJ_dj ?_)); refine DJ_one 23 rfl (by kernel_rfl) (OJ_M TT_ok rfl rfl rfl rfl rfl rfl (SJ_dj ?_)); refine DJ_endA TT_ok rfl ?_; exact X_inv (i + 1, swp zT ys (p + i) (q + i)) ⟨by dsimp only; omega, by dsimp only; exact k2.succ (by omega) (by omega)⟩ (by show n - (i + 1) < n - i; omega) (by repeat (first | exact trivial | refine And.intro ⟨_, rfl, SV.imp_refl _⟩ ?_)) ⟨⟨_, rfl, hsw⟩, (by repeat (first | exact trivial | refine And.intro ⟨_, rfl, Ch.imp_refl _⟩ ?_))⟩)
      · refine DJ_two 13 19 rfl rfl (by kernel_rfl) (OJ_pst TT_ok rfl rfl rfl (SJ_dj ?_)) (OJ_pst TT_ok rfl rfl rfl (SJ_dj ?_))
        · refine DJ_one 19 rfl (by kernel_rfl) (OJ_pst TT_ok rfl rfl rfl (SJ_dj ?_))
          (refine DJ_one 20 rfl (by kernel_rfl) (OJ_pst TT_ok rfl rfl rfl (SJ_dj ?_)); refine DJ_one 21 rfl (by kernel_rfl) (OJ_M TT_ok rfl rfl rfl rfl rfl rfl (SJ_dj ?_)); refine DJ_imp 900 rfl (imp_set (y := ys.getD ((q : Int) + i).toNat zT) (OwnI.refl _)) rfl ?_; refine DJ_one 22 rfl (by kernel_rfl) (OJ_pst TT_ok rfl rfl rfl (SJ_dj ?_)); refine DJ_one 23 rfl (by kernel_rfl) (OJ_M TT_ok rfl rfl rfl rfl rfl rfl (SJ_dj ?_)); refine DJ_endA TT_ok rfl ?_; exact X_inv (i + 1, swp zT ys (p + i) (q + i)) ⟨by dsimp only; omega, by dsimp only; exact k2.succ (by omega) (by omega)⟩ (by show n - (i + 1) < n - i; omega) (by repeat (first | exact trivial | refine And.intro ⟨_, rfl, SV.imp_refl _⟩ ?_)) ⟨⟨_, rfl, hsw⟩, (by repeat (first | exact trivial | refine And.intro ⟨_, rfl, Ch.imp_refl _⟩ ?_))⟩)
        · refine DJ_one 13 rfl (by kernel_rfl) (OJ_pst TT_ok rfl rfl rfl (SJ_dj ?_))
          (refine DJ_one 20 rfl (by kernel_rfl) (OJ_pst TT_ok rfl rfl rfl (SJ_dj ?_)); refine DJ_one 21 rfl (by kernel_rfl) (OJ_M TT_ok rfl rfl rfl rfl rfl rfl (SJ_dj ?_)); refine DJ_imp 900 rfl (imp_set (y := ys.getD ((q : Int) + i).toNat zT) (OwnI.refl _)) rfl ?_; refine DJ_one 22 rfl (by kernel_rfl) (OJ_pst TT_ok rfl rfl rfl (SJ_dj ?_)); refine DJ_one 23 rfl (by kernel_rfl) (OJ_M TT_ok rfl rfl rfl rfl rfl rfl (SJ_dj ?_)); refine DJ_endA TT_ok rfl ?_; exact X_inv (i + 1, swp zT ys (p + i) (q + i)) ⟨by dsimp only; omega, by dsimp only; exact k2.succ (by omega) (by omega)⟩ (by show n - (i + 1) < n - i; omega) (by repeat (first | exact trivial | refine And.intro ⟨_, rfl, SV.imp_refl _⟩ ?_)) ⟨⟨_, rfl, hsw⟩, (by repeat (first | exact trivial | refine And.intro ⟨_, rfl, Ch.imp_refl _⟩ ?_))⟩)
    · refine DJ_two 12 19 rfl rfl (by kernel_rfl) (OJ_pst TT_ok rfl rfl rfl (SJ_dj ?_)) (OJ_pst TT_ok rfl rfl rfl (SJ_dj ?_))
      · refine DJ_two 13 19 rfl rfl (by kernel_rfl) (OJ_pst TT_ok rfl rfl rfl (SJ_dj ?_)) (OJ_pst TT_ok rfl rfl rfl (SJ_dj ?_))
        · refine DJ_one 19 rfl (by kernel_rfl) (OJ_pst TT_ok rfl rfl rfl (SJ_dj ?_))
          (refine DJ_one 20 rfl (by kernel_rfl) (OJ_pst TT_ok rfl rfl rfl (SJ_dj ?_)); refine DJ_one 21 rfl (by kernel_rfl) (OJ_M TT_ok rfl rfl rfl rfl rfl rfl (SJ_dj ?_)); refine DJ_imp 900 rfl (imp_set (y := ys.getD ((q : Int) + i).toNat zT) (OwnI.refl _)) rfl ?_; refine DJ_one 22 rfl (by kernel_rfl) (OJ_pst TT_ok rfl rfl rfl (SJ_dj ?_)); refine DJ_one 23 rfl (by kernel_rfl) (OJ_M TT_ok rfl rfl rfl rfl rfl rfl (SJ_dj ?_)); refine DJ_endA TT_ok rfl ?_; exact X_inv (i + 1, swp zT ys (p + i) (q + i)) ⟨by dsimp only; omega, by dsimp only; exact k2.succ (by omega) (by omega)⟩ (by show n - (i + 1) < n - i; omega) (by repeat (first | exact trivial | refine And.intro ⟨_, rfl, SV.imp_refl _⟩ ?_)) ⟨⟨_, rfl, hsw⟩, (by repeat (first | exact trivial | refine And.intro ⟨_, rfl, Ch.imp_refl _⟩ ?_))⟩)
        · refine DJ_one 13 rfl (by kernel_rfl) (OJ_pst TT_ok rfl rfl rfl (SJ_dj ?_))
          (refine DJ_one 20 rfl (by kernel_rfl) (OJ_pst TT_ok rfl rfl rfl (SJ_dj ?_)); refine DJ_one 21 rfl (by kernel_rfl) (OJ_M TT_ok rfl rfl rfl rfl rfl rfl (SJ_dj ?_)); refine DJ_imp 900 rfl (imp_set (y := ys.getD ((q : Int) + i).toNat zT) (OwnI.refl _)) rfl ?_; refine DJ_one 22 rfl (by kernel_rfl) (OJ_pst TT_ok rfl rfl rfl (SJ_dj ?_)); refine DJ_one 23 rfl (by kernel_rfl) (OJ_M TT_ok rfl rfl rfl rfl rfl rfl (SJ_dj ?_)); refine DJ_endA TT_ok rfl ?_; exact X_inv (i + 1, swp zT ys (p + i) (q + i)) ⟨by dsimp only; omega, by dsimp only; exact k2.succ (by omega) (by omega)⟩ (by show n - (i + 1) < n - i; omega) (by repeat (first | exact trivial | refine And.intro ⟨_, rfl, SV.imp_refl _⟩ ?_)) ⟨⟨_, rfl, hsw⟩, (by repeat (first | exact trivial | refine And.intro ⟨_, rfl, Ch.imp_refl _⟩ ?_))⟩)
      · refine DJ_one 12 rfl (by kernel_rfl) (OJ_pst TT_ok rfl rfl rfl (SJ_dj ?_))
        refine DJ_one 13 rfl (by kernel_rfl) (OJ_pst TT_ok rfl rfl rfl (SJ_dj ?_))
        (refine DJ_one 20 rfl (by kernel_rfl) (OJ_pst TT_ok rfl rfl rfl (SJ_dj ?_)); refine DJ_one 21 rfl (by kernel_rfl) (OJ_M TT_ok rfl rfl rfl rfl rfl rfl (SJ_dj ?_)); refine DJ_imp 900 rfl (imp_set (y := ys.getD ((q : Int) + i).toNat zT) (OwnI.refl _)) rfl ?_; refine DJ_one 22 rfl (by kernel_rfl) (OJ_pst TT_ok rfl rfl rfl (SJ_dj ?_)); refine DJ_one 23 rfl (by kernel_rfl) (OJ_M TT_ok rfl rfl rfl rfl rfl rfl (SJ_dj ?_)); refine DJ_endA TT_ok rfl ?_; exact X_inv (i + 1, swp zT ys (p + i) (q + i)) ⟨by dsimp only; omega, by dsimp only; exact k2.succ (by omega) (by omega)⟩ (by show n - (i + 1) < n - i; omega) (by repeat (first | exact trivial | refine And.intro ⟨_, rfl, SV.imp_refl _⟩ ?_)) ⟨⟨_, rfl, hsw⟩, (by repeat (first | exact trivial | refine And.intro ⟨_, rfl, Ch.imp_refl _⟩ ?_))⟩)
  · have hi : i = n := by omega
    subst hi
    refine T_exit rfl ?_
    refine X_fin TT_ok ys [] rfl rfl ?_ ?_ ?_
    · exact SVs.imp_refl _
    · exact ⟨⟨_, rfl, Ch.imp_refl _⟩, trivial⟩
    · exact k2
end Go.Proofs.YthpjoddhlkcciaaGreat
namespace Go.Proofs.YthpjoddhlkcciaaGreat
open Go Go.RowKit
set_option linter.unusedVariables false
set_option linter.unusedSimpArgs false
set_option maxRecDepth 4000
section
variable {α : Type} {z : α} {key idx : α → Int}
theorem rot_one {xs : List α} {a : Nat} : isRot z xs xs a (a + 1) (a + 1) := ⟨pm.refl _ _ _, fun k hk => by omega, fun k hk => by
  have : k = 0 := by omega
  subst this
  rw [show a + (a + 1 - (a + 1)) + 0 = a + 0 by omega]⟩
theorem rot_step1 {xs ys : List α} {a k : Nat} (h : isRot z xs ys a (a + 1) (k + 1)) (ha : a ≤ k) (hk : k + 1 < xs.length) : isRot z xs (swp z ys k (k + 1)) a (a + 1) (k + 2) := by
  have hl := h.pm.len
  have g := swp_get (z := z) (xs := ys) (i := k) (j := k + 1) (by omega) (by omega)
  refine ⟨(h.pm.sub (Nat.le_refl _) (by omega)).trans (swp_pm (by omega) (by omega) (by omega)), fun q hq => ?_, fun q hq => ?_⟩
  · rw [g, if_neg (by omega)]
    by_cases c : a + q = k
    · rw [if_pos c, h.pm.out (k + 1) (.inr (Nat.le_refl _)), show a + 1 + q = k + 1 by omega]
    · rw [if_neg c]; exact h.lo q (by omega)
  · have : q = 0 := by omega
    subst this
    rw [show a + (k + 2 - (a + 1)) + 0 = k + 1 by omega, g, if_pos rfl]
    have := h.hi 0 (by omega)
    rw [show a + (k + 1 - (a + 1)) + 0 = k by omega] at this
    exact this
theorem rot_none {xs : List α} {m : Nat} : isRot z xs xs m m (m + 1) := ⟨pm.refl _ _ _, fun k hk => rfl, fun k hk => by omega⟩
theorem rot_step2 {xs ys : List α} {k m : Nat} (h : isRot z xs ys k m (m + 1)) (h0 : 0 < k) (hk : k ≤ m) (hm : m < xs.length) : isRot z xs (swp z ys k (k - 1)) (k - 1) m (m + 1) := by
  have hl := h.pm.len
  have g := swp_get (z := z) (xs := ys) (i := k) (j := k - 1) (by omega) (by omega)
  refine ⟨(h.pm.sub (by omega) (Nat.le_refl _)).trans (swp_pm (by omega) (by omega) (by omega)), fun q hq => ?_, fun q hq => ?_⟩
  · have : q = 0 := by omega
    subst this
    rw [show k - 1 + 0 = k - 1 by omega, g, if_pos rfl]
    have := h.lo 0 (by omega)
    rw [show k + 0 = k by omega] at this
    exact this
  · rw [show k - 1 + (m + 1 - m) + q = k + q by omega, g, if_neg (by omega)]
    by_cases c : q = 0
    · subst c
      rw [if_pos (by omega), h.pm.out (k - 1) (.inl (by omega)), show k - 1 + 0 = k - 1 by omega]
    · rw [if_neg (by omega)]
      have := h.hi (q - 1) (by omega)
      rw [show k + (m + 1 - m) + (q - 1) = k + q by omega] at this
      rw [this, show k + (q - 1) = k - 1 + q by omega]
end
end Go.Proofs.YthpjoddhlkcciaaGreat
namespace Go.Proofs.YthpjoddhlkcciaaGreat
open Go Go.RowKit
set_option linter.unusedVariables false
set_option linter.unusedSimpArgs false
set_option maxRecDepth 4000
theorem ord_lt {a b : Int} : ordI a b < 0 ↔ a < b := by
  unfold ordI
  split
  · constructor <;> intro _ <;> omega
  · split
    · constructor <;> intro h <;> omega
    · constructor <;> intro h <;> omega
theorem rotate_c (xs : List RT) (hl : xs.length ≤ 1048576) (a m b : Nat) (h1 : a < m) (h2 : m < b) (h3 : b ≤ xs.length) :
    Con Tryz.prog 206 [900] [.a (.g 900), vI a, vI m, vI b, cmpT] [(900, arrC 7 eT zT xs)] (fun ys : List RT => isRot zT xs ys a m b) (fun _ => []) fun ys => [(900, arrC 7 eT zT ys)] := by
  refine con_enter Tryz.func206 rfl rfl rfl fun B0 r_ D_ w0 => ?_
  refine T_auto TT_ok rfl ?_
  refine T_loopA (ι := Nat × Nat × List RT) (fun s => [(10, vI s.1), (11, vI s.2.1)]) (fun s => [(900, arrC 7 eT zT s.2.2)]) (fun s => 0 < s.1 ∧ 0 < s.2.1 ∧ RotI zT xs s.2.2 a m b s.1 s.2.1) (fun s => s.1 + s.2.1) (m - a, b - m, xs) [900] [] rfl rfl ⟨by show 0 < m - a; omega, by show 0 < b - m; omega, RotI.first (by omega) (by omega)⟩ ⟨⟨_, rfl, SV.imp_of (vI_eq (by dsimp only; omega))⟩, ⟨_, rfl, SV.imp_of (vI_eq (by dsimp only; omega))⟩, trivial⟩ (by repeat (first | exact trivial | refine And.intro ⟨_, rfl, Ch.imp_refl _⟩ ?_)) ?_
  rintro ⟨i, j, ys⟩ ⟨k1, k2, k3⟩
  have hlen := k3.pm.len
  have hle := k3.le
  dsimp only at k1 k2 k3 hlen hle ⊢
  refine T_auto TT_ok rfl ?_
  refine T_condN rfl (fun e => ?_) (fun e => ?_)
  · refine T_auto TT_ok rfl ?_
    refine T_condD rfl (fun e2 => ?_) (fun e2 => ?_)
    · have hij : j < i := by omega
      refine T_auto TT_ok rfl ?_
      refine RJ_C TT_ok (swapRange_c ys (by omega) (m - i) m j (by omega) (by omega)) rfl rfl (SVs.cons (SV.imp_refl _) (SVs.cons (SV.imp_of (vI_eq (by omega))) (SVs.imp_refl _))) (fun _ => rfl) rfl rfl rfl (fun zs hz => ?_)
      refine RJ_auto TT_ok rfl ?_
      exact X_inv (i - j, j, zs) ⟨by dsimp only; omega, by dsimp only; omega, k3.left hij hz⟩ (by show i - j + j < i + j; omega) ⟨⟨_, rfl, SV.imp_of (vI_eq (by dsimp only; omega))⟩, ⟨_, rfl, SV.imp_refl _⟩, (by repeat (first | exact trivial | refine And.intro ⟨_, rfl, SV.imp_refl _⟩ ?_))⟩ (by repeat (first | exact trivial | refine And.intro ⟨_, rfl, Ch.imp_refl _⟩ ?_))
    · have hij : i < j := by have : ¬ (i : Int) = j := e; omega
      refine T_auto TT_ok rfl ?_
      refine RJ_C TT_ok (swapRange_c ys (by omega) (m - i) (m + j - i) i (by omega) (by omega)) rfl rfl (SVs.cons (SV.imp_refl _) (SVs.cons (SV.imp_of (vI_eq (by omega))) (SVs.cons (SV.imp_of (vI_eq (by omega))) (SVs.imp_refl _)))) (fun _ => rfl) rfl rfl rfl (fun zs hz => ?_)
      refine RJ_auto TT_ok rfl ?_
      exact X_inv (i, j - i, zs) ⟨by dsimp only; omega, by dsimp only; omega, k3.right hij hz⟩ (by show i + (j - i) < i + j; omega) ⟨⟨_, rfl, SV.imp_refl _⟩, ⟨_, rfl, SV.imp_of (vI_eq (by dsimp only; omega))⟩, (by repeat (first | exact trivial | refine And.intro ⟨_, rfl, SV.imp_refl _⟩ ?_))⟩ (by repeat (first | exact trivial | refine And.intro ⟨_, rfl, Ch.imp_refl _⟩ ?_))
  · have hij : i = j := by have : (i : Int) = j := e; omega
    subst hij
    refine T_auto TT_ok rfl ?_
    refine RJ_C TT_ok (swapRange_c ys (by omega) (m - i) m i (by omega) (by omega)) rfl rfl (SVs.cons (SV.imp_refl _) (SVs.cons (SV.imp_of (vI_eq (by omega))) (SVs.imp_refl _))) (fun _ => rfl) rfl rfl rfl (fun zs hz => ?_)
    refine RJ_fin TT_ok rfl ?_
    refine X_fin TT_ok zs [] rfl rfl ?_ ?_ ?_
    · exact SVs.imp_refl _
    · exact ⟨⟨_, rfl, Ch.imp_refl _⟩, trivial⟩
    · exact k3.last ⟨by omega, by omega⟩ hz
end Go.Proofs.YthpjoddhlkcciaaGreat
namespace Go.Proofs.YthpjoddhlkcciaaGreat
open Go Go.RowKit
set_option linter.unusedVariables false
set_option linter.unusedSimpArgs false
set_option maxRecDepth 4000
theorem insertion_c (xs : List RT) (hl : xs.length ≤ 1048576) (a b : Nat) (h1 : a ≤ b) (h2 : b ≤ xs.length) (hx : ∀ i j, a ≤ i → i < j → j < b → iT (xs.getD i zT) < iT (xs.getD j zT)) :
    Con Tryz.prog 193 [900] [.a (.g 900), vI a, vI b, cmpT] [(900, arrC 7 eT zT xs)] (fun ys : List RT => pm zT xs ys a b ∧ srt kT iT zT ys a b) (fun _ => []) fun ys => [(900, arrC 7 eT zT ys)] := by
  refine con_enter Tryz.func193 rfl rfl rfl fun B0 r_ D_ w0 => ?_
  refine T_auto TT_ok rfl ?_
  refine T_loopA (ι := Nat × List RT) (fun s => [(8, vI s.1)]) (fun s => [(900, arrC 7 eT zT s.2)]) (fun s => (a + 1 ≤ s.1 ∧ (s.1 ≤ b ∨ s.1 = a + 1)) ∧ pm zT xs s.2 a s.1 ∧ srt kT iT zT s.2 a s.1) (fun s => b - s.1) (a + 1, xs) [900] [] rfl rfl ⟨⟨Nat.le_refl _, .inr rfl⟩, pm.refl _ _ _, fun i j q1 q2 q3 => by dsimp only at q3; omega⟩ (by repeat (first | exact trivial | refine And.intro ⟨_, rfl, SV.imp_refl _⟩ ?_)) (by repeat (first | exact trivial | refine And.intro ⟨_, rfl, Ch.imp_refl _⟩ ?_)) ?_
  rintro ⟨i, ys⟩ ⟨k1, k2, k3⟩
  have hlen := k2.len
  dsimp only at k1 k2 k3 hlen ⊢
  refine T_auto TT_ok rfl ?_
  refine T_condD rfl (fun e => ?_) (fun e => ?_)
  · have hi : i < b := by omega
    refine T_auto TT_ok rfl ?_
    refine T_loopA (ι := Nat × List RT) (fun s => [(9, vI s.1)]) (fun s => [(900, arrC 7 eT zT s.2)]) (fun s => (a ≤ s.1 ∧ s.1 ≤ i) ∧ pm zT ys s.2 a (i + 1) ∧ InsI kT iT zT s.2 a s.1 i) (fun s => s.1) (i, ys) [900] [] rfl rfl ⟨⟨by dsimp only; omega, Nat.le_refl _⟩, pm.refl _ _ _, InsI.first k3 fun p q q1 q2 q3 q4 => ?_⟩ (by repeat (first | exact trivial | refine And.intro ⟨_, rfl, SV.imp_refl _⟩ ?_)) (by repeat (first | exact trivial | refine And.intro ⟨_, rfl, Ch.imp_refl _⟩ ?_)) ?_
    · have : q = i := by omega
      subst this
      rw [k2.out q (.inr (Nat.le_refl _))]
      obtain ⟨p', p1, p2, p3⟩ := k2.mem p q1 q2
      rw [p3]
      exact hx p' q p1 p2 hi
    rintro ⟨j, ws⟩ ⟨l1, l2, l3⟩
    have hwl := l2.len
    dsimp only at l1 l2 l3 hwl ⊢
    refine T_auto TT_ok rfl ?_
    refine T_drawA TT_ok [] rfl rfl fun B0 H0 => ?_
    refine DJ_one 14 rfl (by kernel_rfl) (OJ_FG rfl rfl rfl rfl rfl ⟨(ws.getD (j : Int).toNat zT, ws.getD ((j : Int) - 1).toNat zT), rfl, rfl⟩ (SJ_dj ?_))
    refine DJ_on TT_ok rfl ?_
    refine DJ_endA TT_ok rfl ?_
    have hj1 : 0 < j → ((j : Int) - 1).toNat = j - 1 := fun _ => by omega
    refine T_cond (b := bif decide ((j : Int) > a) then decide (ordI (ws.getD (j : Int).toNat zT).1.stamp (ws.getD ((j : Int) - 1).toNat zT).1.stamp < 0) else false) rfl (fun e2 => ?_) (fun e2 => ?_)
    · have hja : a < j := by
        by_cases c : (j : Int) > a
        · omega
        · rw [decide_eq_false c] at e2; cases e2
      have hk : kT (ws.getD j zT) < kT (ws.getD (j - 1) zT) := by
        rw [decide_eq_true (by omega), cond_true, hj1 (by omega), Int.toNat_natCast] at e2
        have := ord_lt.1 (of_decide_eq_true e2)
        show (ws.getD j zT).1.stamp < (ws.getD (j - 1) zT).1.stamp
        omega
      refine T_auto TT_ok rfl ?_
      have hsw : (Ch.arr 7 (ws.set ((j : Int)).toNat (ws.getD ((j : Int) - 1).toNat zT)).length fun q => bif Nat.beq q ((j : Int) - 1).toNat then eT (ws.getD ((j : Int)).toNat zT) else eT ((ws.set ((j : Int)).toNat (ws.getD ((j : Int) - 1).toNat zT)).getD q zT)).imp (arrC 7 eT zT (swp zT ws j (j - 1))) := by
        rw [hj1 (by omega)]
        exact imp_set (y := ws.getD j zT) (OwnI.refl _)
      refine T_drawL TT_ok [900] [0, 1, 2, 3, 4, 5, 6, 7, 10, 11, 8, 9, 12, 13, 14, 15, 16, 17] rfl rfl fun B0 H0 => ?_
      refine DJ_two 8 12 rfl rfl (by kernel_rfl) (OJ_pst TT_ok rfl rfl rfl (SJ_dj ?_)) (OJ_pst TT_ok rfl rfl rfl (SJ_dj ?_))
      · refine DJ_two 9 12 rfl rfl (by kernel_rfl) (OJ_pst TT_ok rfl rfl rfl (SJ_dj ?_)) (OJ_pst TT_ok rfl rfl rfl (SJ_dj ?_))
        · refine DJ_one 12 rfl (by kernel_rfl) (OJ_pst TT_ok rfl rfl rfl (SJ_dj ?_))
          refine DJ_one 13 rfl (by kernel_rfl) (OJ_pst TT_ok rfl rfl rfl (SJ_dj ?_))
          (refine DJ_one 14 rfl (by kernel_rfl) (OJ_pst TT_ok rfl rfl rfl (SJ_dj ?_)); refine DJ_one 15 rfl (by kernel_rfl) (OJ_M TT_ok rfl rfl rfl rfl rfl rfl (SJ_dj ?_)); refine DJ_imp 900 rfl (imp_set (y := ws.getD ((j : Int) - 1).toNat zT) (OwnI.refl _)) rfl ?_; refine DJ_one 16 rfl (by kernel_rfl) (OJ_pst TT_ok rfl rfl rfl (SJ_dj ?_)); refine DJ_one 17 rfl (by kernel_rfl) (OJ_M TT_ok rfl rfl rfl rfl rfl rfl (SJ_dj ?_)); refine DJ_endA TT_ok rfl ?_; exact X_inv (j - 1, swp zT ws j (j - 1)) ⟨⟨by dsimp only; omega, by dsimp only; omega⟩, l2.trans (swp_pm ⟨by omega, by omega⟩ ⟨by omega, by omega⟩ (by omega)), l3.step hja l1.2 (by omega) hk⟩ (by show j - 1 < j; omega) ⟨⟨_, rfl, SV.imp_of (vI_eq (by dsimp only; omega))⟩, (by repeat (first | exact trivial | refine And.intro ⟨_, rfl, SV.imp_refl _⟩ ?_))⟩ ⟨⟨_, rfl, hsw⟩, (by repeat (first | exact trivial | refine And.intro ⟨_, rfl, Ch.imp_refl _⟩ ?_))⟩)
        · refine DJ_two 9 13 rfl rfl (by kernel_rfl) (OJ_pst TT_ok rfl rfl rfl (SJ_dj ?_)) (OJ_pst TT_ok rfl rfl rfl (SJ_dj ?_))
          · refine DJ_one 13 rfl (by kernel_rfl) (OJ_pst TT_ok rfl rfl rfl (SJ_dj ?_))
            (refine DJ_one 14 rfl (by kernel_rfl) (OJ_pst TT_ok rfl rfl rfl (SJ_dj ?_)); refine DJ_one 15 rfl (by kernel_rfl) (OJ_M TT_ok rfl rfl rfl rfl rfl rfl (SJ_dj ?_)); refine DJ_imp 900 rfl (imp_set (y := ws.getD ((j : Int) - 1).toNat zT) (OwnI.refl _)) rfl ?_; refine DJ_one 16 rfl (by kernel_rfl) (OJ_pst TT_ok rfl rfl rfl (SJ_dj ?_)); refine DJ_one 17 rfl (by kernel_rfl) (OJ_M TT_ok rfl rfl rfl rfl rfl rfl (SJ_dj ?_)); refine DJ_endA TT_ok rfl ?_; exact X_inv (j - 1, swp zT ws j (j - 1)) ⟨⟨by dsimp only; omega, by dsimp only; omega⟩, l2.trans (swp_pm ⟨by omega, by omega⟩ ⟨by omega, by omega⟩ (by omega)), l3.step hja l1.2 (by omega) hk⟩ (by show j - 1 < j; omega) ⟨⟨_, rfl, SV.imp_of (vI_eq (by dsimp only; omega))⟩, (by repeat (first | exact trivial | refine And.intro ⟨_, rfl, SV.imp_refl _⟩ ?_))⟩ ⟨⟨_, rfl, hsw⟩, (by repeat (first | exact trivial | refine And.intro ⟨_, rfl, Ch.imp_refl _⟩ ?_))⟩)
          · refine DJ_one 9 rfl (by kernel_rfl) (OJ_pst TT_ok rfl rfl rfl (SJ_dj ?_))
            (refine DJ_one 14 rfl (by kernel_rfl) (OJ_pst TT_ok rfl rfl rfl (SJ_dj ?_)); refine DJ_one 15 rfl (by kernel_rfl) (OJ_M TT_ok rfl rfl rfl rfl rfl rfl (SJ_dj ?_)); refine DJ_imp 900 rfl (imp_set (y := ws.getD ((j : Int) - 1).toNat zT) (OwnI.refl _)) rfl ?_; refine DJ_one 16 rfl (by kernel_rfl) (OJ_pst TT_ok rfl rfl rfl (SJ_dj ?_)); refine DJ_one 17 rfl (by kernel_rfl) (OJ_M TT_ok rfl rfl rfl rfl rfl rfl (SJ_dj ?_)); refine DJ_endA TT_ok rfl ?_; exact X_inv (j - 1, swp zT ws j (j - 1)) ⟨⟨by dsimp only; omega, by dsimp only; omega⟩, l2.trans (swp_pm ⟨by omega, by omega⟩ ⟨by omega, by omega⟩ (by omega)), l3.step hja l1.2 (by omega) hk⟩ (by show j - 1 < j; omega) ⟨⟨_, rfl, SV.imp_of (vI_eq (by dsimp only; omega))⟩, (by repeat (first | exact trivial | refine And.intro ⟨_, rfl, SV.imp_refl _⟩ ?_))⟩ ⟨⟨_, rfl, hsw⟩, (by repeat (first | exact trivial | refine And.intro ⟨_, rfl, Ch.imp_refl _⟩ ?_))⟩)
      · refine DJ_two 8 13 rfl rfl (by kernel_rfl) (OJ_pst TT_ok rfl rfl rfl (SJ_dj ?_)) (OJ_pst TT_ok rfl rfl rfl (SJ_dj ?_))
        · refine DJ_two 9 13 rfl rfl (by kernel_rfl) (OJ_pst TT_ok rfl rfl rfl (SJ_dj ?_)) (OJ_pst TT_ok rfl rfl rfl (SJ_dj ?_))
          · refine DJ_one 13 rfl (by kernel_rfl) (OJ_pst TT_ok rfl rfl rfl (SJ_dj ?_))
            (refine DJ_one 14 rfl (by kernel_rfl) (OJ_pst TT_ok rfl rfl rfl (SJ_dj ?_)); refine DJ_one 15 rfl (by kernel_rfl) (OJ_M TT_ok rfl rfl rfl rfl rfl rfl (SJ_dj ?_)); refine DJ_imp 900 rfl (imp_set (y := ws.getD ((j : Int) - 1).toNat zT) (OwnI.refl _)) rfl ?_; refine DJ_one 16 rfl (by kernel_rfl) (OJ_pst TT_ok rfl rfl rfl (SJ_dj ?_)); refine DJ_one 17 rfl (by kernel_rfl) (OJ_M TT_ok rfl rfl rfl rfl rfl rfl (SJ_dj ?_)); refine DJ_endA TT_ok rfl ?_; exact X_inv (j - 1, swp zT ws j (j - 1)) ⟨⟨by dsimp only; omega, by dsimp only; omega⟩, l2.trans (swp_pm ⟨by omega, by omega⟩ ⟨by omega, by omega⟩ (by omega)), l3.step hja l1.2 (by omega) hk⟩ (by show j - 1 < j; omega) ⟨⟨_, rfl, SV.imp_of (vI_eq (by dsimp only; omega))⟩, (by repeat (first | exact trivial | refine And.intro ⟨_, rfl, SV.imp_refl _⟩ ?_))⟩ ⟨⟨_, rfl, hsw⟩, (by repeat (first | exact trivial | refine And.intro ⟨_, rfl, Ch.imp_refl _⟩ ?_))⟩)
          · refine DJ_one 9 rfl (by kernel_rfl) (OJ_pst TT_ok rfl rfl rfl (SJ_dj ?_))
            (refine DJ_one 14 rfl (by kernel_rfl) (OJ_pst TT_ok rfl rfl rfl (SJ_dj ?_)); refine DJ_one 15 rfl (by kernel_rfl) (OJ_M TT_ok rfl rfl rfl rfl rfl rfl (SJ_dj ?_)); refine DJ_imp 900 rfl (imp_set (y := ws.getD ((j : Int) - 1).toNat zT) (OwnI.refl _)) rfl ?_; refine DJ_one 16 rfl (by kernel_rfl) (OJ_pst TT_ok rfl rfl rfl (SJ_dj ?_)); refine DJ_one 17 rfl (by kernel_rfl) (OJ_M TT_ok rfl rfl rfl rfl rfl rfl (SJ_dj ?_)); refine DJ_endA TT_ok rfl ?_; exact X_inv (j - 1, swp zT ws j (j - 1)) ⟨⟨by dsimp only; omega, by dsimp only; omega⟩, l2.trans (swp_pm ⟨by omega, by omega⟩ ⟨by omega, by omega⟩ (by omega)), l3.step hja l1.2 (by omega) hk⟩ (by show j - 1 < j; omega) ⟨⟨_, rfl, SV.imp_of (vI_eq (by dsimp only; omega))⟩, (by repeat (first | exact trivial | refine And.intro ⟨_, rfl, SV.imp_refl _⟩ ?_))⟩ ⟨⟨_, rfl, hsw⟩, (by repeat (first | exact trivial | refine And.intro ⟨_, rfl, Ch.imp_refl _⟩ ?_))⟩)
        · refine DJ_one 8 rfl (by kernel_rfl) (OJ_pst TT_ok rfl rfl rfl (SJ_dj ?_))
          refine DJ_one 9 rfl (by kernel_rfl) (OJ_pst TT_ok rfl rfl rfl (SJ_dj ?_))
          (refine DJ_one 14 rfl (by kernel_rfl) (OJ_pst TT_ok rfl rfl rfl (SJ_dj ?_)); refine DJ_one 15 rfl (by kernel_rfl) (OJ_M TT_ok rfl rfl rfl rfl rfl rfl (SJ_dj ?_)); refine DJ_imp 900 rfl (imp_set (y := ws.getD ((j : Int) - 1).toNat zT) (OwnI.refl _)) rfl ?_; refine DJ_one 16 rfl (by kernel_rfl) (OJ_pst TT_ok rfl rfl rfl (SJ_dj ?_)); refine DJ_one 17 rfl (by kernel_rfl) (OJ_M TT_ok rfl rfl rfl rfl rfl rfl (SJ_dj ?_)); refine DJ_endA TT_ok rfl ?_; exact X_inv (j - 1, swp zT ws j (j - 1)) ⟨⟨by dsimp only; omega, by dsimp only; omega⟩, l2.trans (swp_pm ⟨by omega, by omega⟩ ⟨by omega, by omega⟩ (by omega)), l3.step hja l1.2 (by omega) hk⟩ (by show j - 1 < j; omega) ⟨⟨_, rfl, SV.imp_of (vI_eq (by dsimp only; omega))⟩, (by repeat (first | exact trivial | refine And.intro ⟨_, rfl, SV.imp_refl _⟩ ?_))⟩ ⟨⟨_, rfl, hsw⟩, (by repeat (first | exact trivial | refine And.intro ⟨_, rfl, Ch.imp_refl _⟩ ?_))⟩)
    · have hk : a < j → ¬ kT (ws.getD j zT) < kT (ws.getD (j - 1) zT) := fun hja hlt => by
        rw [decide_eq_true (by omega), cond_true, hj1 (by omega), Int.toNat_natCast] at e2
        have h := of_decide_eq_false e2
        have hlt : (ws.getD j zT).1.stamp < (ws.getD (j - 1) zT).1.stamp := hlt
        exact h (ord_lt.2 (by omega))
      refine T_auto TT_ok rfl ?_
      refine X_inv (i + 1, ws) ⟨⟨by dsimp only; omega, .inl (by dsimp only; omega)⟩, (k2.sub (Nat.le_refl _) (Nat.le_succ _)).trans l2, l3.stop l1.1 l1.2 hk⟩ (by show b - (i + 1) < b - i; omega) (by repeat (first | exact trivial | refine And.intro ⟨_, rfl, SV.imp_refl _⟩ ?_)) (by repeat (first | exact trivial | refine And.intro ⟨_, rfl, Ch.imp_refl _⟩ ?_))
  · have hib : b ≤ i := by omega
    refine T_exit rfl ?_
    refine X_fin TT_ok ys [] rfl rfl ?_ ?_ ?_
    · exact SVs.imp_refl _
    · exact ⟨⟨_, rfl, Ch.imp_refl _⟩, trivial⟩
    · by_cases c : i = b
      · subst c; exact ⟨k2, k3⟩
      · have ha : b = a := by omega
        subst ha
        have hi : i = b + 1 := by omega
        subst hi
        refine ⟨⟨k2.perm, fun k _ => ?_, fun k q1 q2 => by omega⟩, fun p q q1 q2 q3 => by omega⟩
        by_cases c2 : k = b
        · obtain ⟨k', r1, r2, r3⟩ := k2.mem k (by omega) (by omega)
          rw [r3, show k' = k by omega]
        · exact k2.out k (by omega)
end Go.Proofs.YthpjoddhlkcciaaGreat
