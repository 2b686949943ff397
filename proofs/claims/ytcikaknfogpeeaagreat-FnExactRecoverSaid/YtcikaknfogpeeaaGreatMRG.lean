/-
  Part G of what the claim leans on: memory, data, walks through the program, plain laws.
-/
import Derived.Test.YtcikaknfogpeeaaGreatMRF
namespace Go.Proofs.YtcikaknfogpeeaaGreat
open Go Go.RowKit
set_option linter.unusedVariables false
set_option linter.unusedSimpArgs false
set_option maxRecDepth 4000
abbrev agPlaceG (x : GPlace) (k1 : Nat) : SV := .ag [.g k1]
theorem szPlace_g (x : GPlace) (hb : D.bds maxL (cPlace x)) (l : Int) (h1 : 0 ≤ l) (h2 : l ≤ 1048576) : Ans Tryz.prog 50 [] [vR (cPlace x), vI l] [] (vI (szI l (wPlace x))) := by
  unfold wPlace
  refine con_enter Tryz.func50 rfl rfl rfl fun B0 r_ D_ w0 => ?_
  refine T_auto TT_ok rfl ?_
  refine RJ_Q TT_ok (szInt64S_q _ hb.1.1 _ h1 h2) rfl rfl rfl rfl rfl ?_
  refine T_condD rfl (fun e1 => ?_) (fun e1 => ?_)
  · refine T_auto TT_ok rfl ?_
    exact T_ansI TT_ok [(4, none)] rfl rfl (by exact (szI_mono e1 (by omega)).symm)
  have e1r := e1
  refine T_auto TT_ok rfl ?_
  exact T_ansI TT_ok [(4, none)] rfl rfl (rfl)
theorem toPlace_g (x : GPlace) (hb : D.bds bigN (cPlace x)) : Con Tryz.prog 67 [] [vR (cPlace x)] [] (fun _ : Unit => True) (fun _ => [agPlaceG x 901]) fun _ => [(901, arrC 1 cInt 0 x.machines)] := by
  refine con_enter Tryz.func67 rfl rfl rfl fun B0 r_ D_ w0 => ?_
  refine T_auto TT_ok rfl ?_
  refine RJ_C TT_ok (Con.sw 900 901 (toInt64S_m x.machines hb.1.1)) rfl rfl (SVs.imp_refl _) (fun _ => rfl) rfl rfl rfl fun _ _ => ?_
  refine RJ_auto TT_ok rfl ?_
  refine T_ret TT_ok (()) [(2, some 77)] rfl rfl ?_ ?_ ?_
  · exact SVs.imp_refl _
  · exact ⟨⟨_, rfl, Ch.imp_refl _⟩, trivial⟩
  · trivial
theorem eqPlace_g (x : GPlace) (hb : D.bds bigN (cPlace x)) : Ans Tryz.prog 90 [] [vR (cPlace x), vR (cPlace x)] [] (vB true) := by
  refine con_enter Tryz.func90 rfl rfl rfl fun B0 r_ D_ w0 => ?_
  refine T_auto TT_ok rfl ?_
  refine RJ_Q TT_ok (eqInt64S_q _ hb.1.1) rfl rfl rfl rfl rfl ?_
  refine T_cond rfl (fun e => by cases e) (fun _ => ?_)
  refine T_auto TT_ok rfl ?_
  exact T_ansB TT_ok [(4, none)] rfl rfl (rfl)
theorem szPlaceS_q (xs : List GPlace) (hb : D.bd maxL (dL 1 cPlace GPlace.z xs)) (l : Int) (h1 : 0 ≤ l) (h2 : l ≤ 1048576) : Ans Tryz.prog 17 [] [vL 1 cPlace GPlace.z xs, vI l] [] (vI (szI l (wL wPlace xs))) := by
  have hx : xs.length ≤ maxL := hb.1
  unfold maxL at hx
  unfold wL
  refine con_enter Tryz.func17 rfl rfl rfl fun B0 r_ D_ w0 => ?_
  refine T_auto TT_ok rfl ?_
  refine T_condD rfl (fun e => ?_) (fun e => ?_)
  · refine T_auto TT_ok rfl ?_
    exact T_ansI TT_ok [(4, none)] rfl rfl ((szI_mono (szI_no e) (Nat.le_add_right _ _)).symm)
  refine T_auto TT_ok rfl ?_
  refine T_loopA (ι := Nat) (fun i => [(5, vI i), (1, vI (l - xs.length - (sumW wPlace (xs.take i) : Nat)))]) (fun _ => []) (fun i => i ≤ xs.length ∧ 0 ≤ l - xs.length - (sumW wPlace (xs.take i) : Nat)) (fun i => xs.length - i) 0 [] [] rfl rfl ⟨Nat.zero_le _, by simp [sumW]; omega⟩ ⟨⟨_, rfl, SV.imp_refl _⟩, ⟨_, rfl, SV.imp_of (vI_eq (by simp [sumW]))⟩, trivial⟩ (by repeat (first | exact trivial | refine And.intro ⟨_, rfl, Ch.imp_refl _⟩ ?_)) ?_
  intro i ⟨h3, h4⟩
  refine T_auto TT_ok rfl ?_
  refine T_condD rfl (fun e2 => ?_) (fun e2 => ?_)
  · have hi : i < xs.length := by omega
    have hs := sumW_take (w := wPlace) (z := GPlace.z) hi
    have hs2 := sumW_take_le (w := wPlace) xs (i + 1)
    refine T_auto TT_ok rfl ?_
    refine RJ_Q TT_ok (szPlace_g _ (hb.2 i hi) _ h4 (by omega)) rfl rfl rfl rfl rfl ?_
    refine T_condD rfl (fun e3 => ?_) (fun e3 => ?_)
    · have h5 := szI_neg.1 e3
      refine T_auto TT_ok rfl ?_
      exact T_ansI TT_ok [(4, none)] rfl rfl ((szI_mono (szI_neg.2 (by omega)) (Nat.le_refl _)).symm)
    · have h5 := szI_in e3
      refine T_auto TT_ok rfl ?_
      exact X_inv (i + 1) ⟨hi, by omega⟩ (by omega) ⟨⟨_, rfl, SV.imp_refl _⟩, ⟨_, rfl, SV.imp_of (vI_eq (by omega))⟩, (by repeat (first | exact trivial | refine And.intro ⟨_, rfl, SV.imp_refl _⟩ ?_))⟩ (by repeat (first | exact trivial | refine And.intro ⟨_, rfl, Ch.imp_refl _⟩ ?_))
  · have hi : i = xs.length := by omega
    subst hi
    rw [List.take_length] at h4 ⊢
    refine T_auto TT_ok rfl ?_
    exact T_ansI TT_ok [(4, none)] rfl rfl (by rw [szI_yes (by omega)]; omega)
theorem eqPlaceS_q (xs : List GPlace) (hb : D.bd bigN (dL 1 cPlace GPlace.z xs)) : Ans Tryz.prog 30 [] [vL 1 cPlace GPlace.z xs, vL 1 cPlace GPlace.z xs] [] (vB true) := by
  have hl : xs.length ≤ 1048576 := hb.1
  refine con_enter Tryz.func30 rfl rfl rfl fun B0 r_ D_ w0 => ?_
  refine T_auto TT_ok rfl ?_
  refine T_condN rfl (fun e => absurd rfl e) (fun _ => ?_)
  refine T_auto TT_ok rfl ?_
  refine T_loopA (ι := Nat) (fun i => [(5, vI i)]) (fun _ => []) (fun i => i ≤ xs.length) (fun i => xs.length - i) 0 [] [] rfl rfl (Nat.zero_le _) (by repeat (first | exact trivial | refine And.intro ⟨_, rfl, SV.imp_refl _⟩ ?_)) (by repeat (first | exact trivial | refine And.intro ⟨_, rfl, Ch.imp_refl _⟩ ?_)) ?_
  intro i h1
  refine T_auto TT_ok rfl ?_
  refine T_condD rfl (fun e => ?_) (fun e => ?_)
  · have hi : i < xs.length := by omega
    refine T_auto TT_ok rfl ?_
    refine T_drawA TT_ok [] rfl rfl fun B0 H0 => ?_
    refine DJ_Q TT_ok (eqPlace_g _ (hb.2 i hi)) rfl rfl rfl rfl rfl rfl ?_
    refine DJ_endA TT_ok rfl ?_
    refine T_cond rfl (fun e => by cases e) (fun _ => ?_)
    refine T_auto TT_ok rfl ?_
    exact X_inv (i + 1) hi (by omega) (by repeat (first | exact trivial | refine And.intro ⟨_, rfl, SV.imp_refl _⟩ ?_)) (by repeat (first | exact trivial | refine And.intro ⟨_, rfl, Ch.imp_refl _⟩ ?_))
  · refine T_auto TT_ok rfl ?_
    exact T_ansB TT_ok [(4, none)] rfl rfl (rfl)
theorem toPlaceS_m (xs : List GPlace) (hb : D.bd bigN (dL 1 cPlace GPlace.z xs)) : MkL Tryz.prog 24 [vL 1 cPlace GPlace.z xs] 1 cPlace GPlace.z xs := by
  have hl : xs.length ≤ 1048576 := hb.1
  refine con_enter Tryz.func24 rfl rfl rfl fun B0 r_ D_ w0 => ?_
  refine T_auto TT_ok rfl ?_
  refine RJ_make TT_ok 7 xs.length rfl rfl rfl rfl rfl rfl rfl ⟨by simp; omega, by unfold maxL; omega⟩ ?_
  refine RJ_auto TT_ok rfl ?_
  refine T_loopA (ι := Nat) (fun i => [(4, vI i)]) (fun i => [(7, .arr 1 xs.length fun k => cPlace (if k < i then xs.getD k GPlace.z else GPlace.z))]) (fun i => i ≤ xs.length) (fun i => xs.length - i) 0 [7] [] rfl rfl (Nat.zero_le _) (by repeat (first | exact trivial | refine And.intro ⟨_, rfl, SV.imp_refl _⟩ ?_)) ⟨⟨_, rfl, Ch.imp_own rfl fun k hk => by rw [if_neg (Nat.not_lt_zero _)]; exact OwnI.n OwnI.e⟩, trivial⟩ ?_
  intro i h1
  refine T_auto TT_ok rfl ?_
  refine T_condD rfl (fun e => ?_) (fun e => ?_)
  · have hi : i < xs.length := by omega
    refine T_auto TT_ok rfl ?_
    refine RJ_C TT_ok (Con.sw 901 2901 (toPlace_g _ (hb.2 i hi))) rfl rfl (SVs.imp_refl _) (fun _ => rfl) rfl rfl rfl fun _ _ => ?_
    refine RJ_auto TT_ok rfl ?_
    refine RJ_view (V_carve 7 i 7000 (l := [.s .o 1 0 fun i => cInt (([] : List Int).getD i 0)]) rfl (by rw [if_neg (by omega : ¬ ((i : Int)).toNat < i)]; rfl) rfl rfl rfl rfl ⟨by omega, by omega⟩) ?_
    refine RJ_view (V_pe 21 rfl rfl rfl) ?_
    refine RJ_auto TT_ok rfl ?_
    refine X_view (V_fold 7000 0 2901 rfl rfl rfl rfl rfl rfl rfl) ?_
    refine X_view (V_uncarve 7 7000 rfl rfl rfl rfl rfl rfl rfl) ?_
    exact X_inv (i + 1) hi (by omega) (by repeat (first | exact trivial | refine And.intro ⟨_, rfl, SV.imp_refl _⟩ ?_)) ⟨⟨_, rfl, Ch.imp_arr fun k hk => fill_step (fun x => cPlace x) rfl⟩, (by repeat (first | exact trivial | refine And.intro ⟨_, rfl, Ch.imp_refl _⟩ ?_))⟩
  · have hi : i = xs.length := by omega
    subst hi
    refine T_auto TT_ok rfl ?_
    refine T_view (V_sw 7 900) ?_
    refine T_ret TT_ok (()) [(2, none)] rfl rfl ?_ ?_ ?_
    · exact SVs.imp_refl _
    · exact ⟨⟨_, rfl, Ch.imp_arr fun k hk => by rw [if_pos hk]⟩, trivial⟩
    · trivial
theorem mPlace_eq (x : GPlace) : mPlace x = 0+(x.machines.length) := by unfold mPlace; omega
theorem markPlaceS_w (xs : List GPlace) (hb : D.bd bigN (dL 1 cPlace GPlace.z xs)) (k0 : Int) (h1 : 0 ≤ k0) (h2 : k0 + (sumW mPlace xs : Nat) ≤ 1000000000000) : Con Tryz.prog 33 [900] [.a (.g 900), vI k0] [(900, arrC 1 cPlace GPlace.z xs)] (fun _ : Unit => True) (fun _ => [vI (k0 + (sumW mPlace xs : Nat))]) fun _ => [(900, arrC 1 cPlace GPlace.z (mkL mkPlace mPlace GPlace.z xs k0))] := by
  have hl : xs.length ≤ 1048576 := hb.1
  refine con_enter Tryz.func33 rfl rfl rfl fun B0 r_ D_ w0 => ?_
  refine T_auto TT_ok rfl ?_
  refine T_loopA (ι := Nat) (fun i => [(5, vI i), (1, vI (k0 + (sumW mPlace (xs.take i) : Nat)))]) (fun i => [(900, .arr 1 xs.length fun j => cPlace (if j < i then mkPlace (xs.getD j GPlace.z) (k0 + (sumW mPlace (xs.take j) : Nat)) else xs.getD j GPlace.z))]) (fun i => i ≤ xs.length) (fun i => xs.length - i) 0 [900] [] rfl rfl (Nat.zero_le _) ⟨⟨_, rfl, SV.imp_refl _⟩, ⟨_, rfl, SV.imp_of (vI_eq (by simp [sumW]))⟩, trivial⟩ ⟨⟨_, rfl, Ch.imp_arr fun k hk => by rw [if_neg (Nat.not_lt_zero _)]⟩, trivial⟩ ?_
  intro i h3
  refine T_auto TT_ok rfl ?_
  refine T_condD rfl (fun e => ?_) (fun e => ?_)
  · have hi : i < xs.length := by omega
    have hs := sumW_take (w := mPlace) (z := GPlace.z) hi
    have hs2 := sumW_take_le (w := mPlace) xs (i + 1)
    have hm := mPlace_eq (xs.getD i GPlace.z)
    have ht : sumW mPlace (xs.take ((i : Int)).toNat) = sumW mPlace (xs.take i) := rfl
    refine T_view (V_carve 900 i 7000 (l := [.s .o 1 (xs.getD i GPlace.z).machines.length fun j => cInt ((xs.getD i GPlace.z).machines.getD j 0)]) rfl (by rw [if_neg (by omega : ¬ ((i : Int)).toNat < i)]; rfl) rfl rfl rfl rfl ⟨by omega, by omega⟩) ?_
    refine T_view (V_open 7000 0 7001 rfl rfl rfl rfl rfl rfl) ?_
    refine T_auto TT_ok rfl ?_
    refine RJ_view (V_pe 15 rfl rfl rfl) ?_
    refine RJ_auto TT_ok rfl ?_
    refine RJ_C TT_ok (Con.sw 900 7001 (markInt64S_w (xs.getD i GPlace.z).machines (hb.2 i hi).1.1 _ (by omega) (by omega))) rfl rfl (SVs.imp_refl _) (fun _ => rfl) rfl rfl rfl fun _ _ => ?_
    refine RJ_auto TT_ok rfl ?_
    refine X_view (V_fold 7000 0 7001 rfl rfl rfl rfl rfl rfl rfl) ?_
    refine X_view (V_uncarve 900 7000 rfl rfl rfl rfl rfl rfl rfl) ?_
    exact X_inv (i + 1) hi (by omega) ⟨⟨_, rfl, SV.imp_refl _⟩, ⟨_, rfl, SV.imp_of (vI_eq (by omega))⟩, (by repeat (first | exact trivial | refine And.intro ⟨_, rfl, SV.imp_refl _⟩ ?_))⟩ ⟨⟨_, rfl, Ch.imp_arr fun k hk => fill_step2 (i := i) (k := k) (fun x => cPlace x) (fun j => mkPlace (xs.getD j GPlace.z) (k0 + (sumW mPlace (xs.take j) : Nat))) (o := fun j => xs.getD j GPlace.z) (by rfl)⟩, (by repeat (first | exact trivial | refine And.intro ⟨_, rfl, Ch.imp_refl _⟩ ?_))⟩
  · have hi : i = xs.length := by omega
    subst hi
    rw [List.take_length]
    refine T_auto TT_ok rfl ?_
    refine T_ret TT_ok (()) [(4, none)] rfl rfl ?_ ?_ ?_
    · exact SVs.imp_refl _
    · exact ⟨⟨_, rfl, Ch.imp_len (tab_length _ _).symm fun k hk => by rw [if_pos hk, mkL, tab_getD hk]⟩, trivial⟩
    · trivial
theorem heldPlaceS_w (xs : List GPlace) (hb : D.bd bigN (dL 1 cPlace GPlace.z xs)) (k0 : Int) (h1 : 0 ≤ k0) (h2 : k0 + (sumW mPlace xs : Nat) ≤ 1000000000000) : Ans Tryz.prog 36 [] [vL 1 cPlace GPlace.z (mkL mkPlace mPlace GPlace.z xs k0), vI k0] [] (vI (k0 + (sumW mPlace xs : Nat))) := by
  have hl : xs.length ≤ 1048576 := hb.1
  refine Con.wkA (args := [.a (.s .r 1 xs.length fun j => cPlace (mkPlace (xs.getD j GPlace.z) (k0 + (sumW mPlace (xs.take j) : Nat)))), vI k0]) ?_ ⟨_, _, rfl, imp_untabS, SVs.imp_refl _⟩
  refine con_enter Tryz.func36 rfl rfl rfl fun B0 r_ D_ w0 => ?_
  refine T_auto TT_ok rfl ?_
  refine T_loopA (ι := Nat) (fun i => [(5, vI i), (1, vI (k0 + (sumW mPlace (xs.take i) : Nat)))]) (fun _ => []) (fun i => i ≤ xs.length) (fun i => xs.length - i) 0 [] [] rfl rfl (Nat.zero_le _) ⟨⟨_, rfl, SV.imp_refl _⟩, ⟨_, rfl, SV.imp_of (vI_eq (by simp [sumW]))⟩, trivial⟩ (by repeat (first | exact trivial | refine And.intro ⟨_, rfl, Ch.imp_refl _⟩ ?_)) ?_
  intro i h3
  refine T_auto TT_ok rfl ?_
  refine T_condD rfl (fun e => ?_) (fun e => ?_)
  · have hi : i < xs.length := by omega
    have hs := sumW_take (w := mPlace) (z := GPlace.z) hi
    have hs2 := sumW_take_le (w := mPlace) xs (i + 1)
    have hm := mPlace_eq (xs.getD i GPlace.z)
    have ht : sumW mPlace (xs.take ((i : Int)).toNat) = sumW mPlace (xs.take i) := rfl
    refine T_auto TT_ok rfl ?_
    refine RJ_Q TT_ok (heldInt64S_w (xs.getD i GPlace.z).machines (hb.2 i hi).1.1 _ (by (try simp only [Int.toNat_natCast] at *); omega) (by (try simp only [Int.toNat_natCast] at *); omega)) rfl rfl rfl rfl rfl ?_
    refine T_condD rfl (fun e => by (try simp only [Int.toNat_natCast] at *); omega) (fun _ => ?_)
    refine T_auto TT_ok rfl ?_
    exact X_inv (i + 1) hi (by omega) ⟨⟨_, rfl, SV.imp_refl _⟩, ⟨_, rfl, SV.imp_of (vI_eq (by (try simp only [Int.toNat_natCast] at *); omega))⟩, (by repeat (first | exact trivial | refine And.intro ⟨_, rfl, SV.imp_refl _⟩ ?_))⟩ (by repeat (first | exact trivial | refine And.intro ⟨_, rfl, Ch.imp_refl _⟩ ?_))
  · have hi : i = xs.length := by omega
    subst hi
    rw [List.take_length]
    refine T_auto TT_ok rfl ?_
    exact T_ansI TT_ok [(4, none)] rfl rfl (rfl)
abbrev agRecordG (x : GRecord) (k1 : Nat) : SV := .ag [.v (.int .i64 x.kind), .v (.int .i64 x.tx), .v (.int .i64 x.region), .g k1]
theorem szRecord_g (x : GRecord) (hb : D.bds maxL (cRecord x)) (l : Int) (h1 : 0 ≤ l) (h2 : l ≤ 1048576) : Ans Tryz.prog 199 [] [vR (cRecord x), vI l] [] (vI (szI l (wRecord x))) := by
  unfold wRecord
  refine con_enter Tryz.func199 rfl rfl rfl fun B0 r_ D_ w0 => ?_
  refine T_auto TT_ok rfl ?_
  refine RJ_Q TT_ok (szSetS_q _ hb.2.2.2.1.1 _ h1 h2) rfl rfl rfl rfl rfl ?_
  refine T_condD rfl (fun e1 => ?_) (fun e1 => ?_)
  · refine T_auto TT_ok rfl ?_
    exact T_ansI TT_ok [(4, none)] rfl rfl (by exact (szI_mono e1 (by omega)).symm)
  have e1r := e1
  refine T_auto TT_ok rfl ?_
  exact T_ansI TT_ok [(4, none)] rfl rfl (rfl)
theorem toRecord_g (x : GRecord) (hb : D.bds bigN (cRecord x)) : Con Tryz.prog 203 [] [vR (cRecord x)] [] (fun _ : Unit => True) (fun _ => [agRecordG x 901]) fun _ => [(901, arrC 5 cSet GSet.z x.sets)] := by
  refine con_enter Tryz.func203 rfl rfl rfl fun B0 r_ D_ w0 => ?_
  refine T_auto TT_ok rfl ?_
  refine RJ_C TT_ok (Con.sw 900 901 (toSetS_m x.sets hb.2.2.2.1.1)) rfl rfl (SVs.imp_refl _) (fun _ => rfl) rfl rfl rfl fun _ _ => ?_
  refine RJ_auto TT_ok rfl ?_
  refine T_ret TT_ok (()) [(2, some 106)] rfl rfl ?_ ?_ ?_
  · exact SVs.imp_refl _
  · exact ⟨⟨_, rfl, Ch.imp_refl _⟩, trivial⟩
  · trivial
theorem eqRecord_g (x : GRecord) (hb : D.bds bigN (cRecord x)) : Ans Tryz.prog 230 [] [vR (cRecord x), vR (cRecord x)] [] (vB true) := by
  refine con_enter Tryz.func230 rfl rfl rfl fun B0 r_ D_ w0 => ?_
  refine T_auto TT_ok rfl ?_
  refine T_condN rfl (fun e => absurd rfl e) (fun _ => ?_)
  refine T_auto TT_ok rfl ?_
  refine T_condN rfl (fun e => absurd rfl e) (fun _ => ?_)
  refine T_auto TT_ok rfl ?_
  refine T_condN rfl (fun e => absurd rfl e) (fun _ => ?_)
  refine T_auto TT_ok rfl ?_
  refine RJ_Q TT_ok (eqSetS_q _ hb.2.2.2.1.1) rfl rfl rfl rfl rfl ?_
  refine T_cond rfl (fun e => by cases e) (fun _ => ?_)
  refine T_auto TT_ok rfl ?_
  exact T_ansB TT_ok [(4, none)] rfl rfl (rfl)
theorem szRecordS_q (xs : List GRecord) (hb : D.bd maxL (dL 4 cRecord GRecord.z xs)) (l : Int) (h1 : 0 ≤ l) (h2 : l ≤ 1048576) : Ans Tryz.prog 123 [] [vL 4 cRecord GRecord.z xs, vI l] [] (vI (szI l (wL wRecord xs))) := by
  have hx : xs.length ≤ maxL := hb.1
  unfold maxL at hx
  unfold wL
  refine con_enter Tryz.func123 rfl rfl rfl fun B0 r_ D_ w0 => ?_
  refine T_auto TT_ok rfl ?_
  refine T_condD rfl (fun e => ?_) (fun e => ?_)
  · refine T_auto TT_ok rfl ?_
    exact T_ansI TT_ok [(4, none)] rfl rfl ((szI_mono (szI_no e) (Nat.le_add_right _ _)).symm)
  refine T_auto TT_ok rfl ?_
  refine T_loopA (ι := Nat) (fun i => [(5, vI i), (1, vI (l - xs.length - (sumW wRecord (xs.take i) : Nat)))]) (fun _ => []) (fun i => i ≤ xs.length ∧ 0 ≤ l - xs.length - (sumW wRecord (xs.take i) : Nat)) (fun i => xs.length - i) 0 [] [] rfl rfl ⟨Nat.zero_le _, by simp [sumW]; omega⟩ ⟨⟨_, rfl, SV.imp_refl _⟩, ⟨_, rfl, SV.imp_of (vI_eq (by simp [sumW]))⟩, trivial⟩ (by repeat (first | exact trivial | refine And.intro ⟨_, rfl, Ch.imp_refl _⟩ ?_)) ?_
  intro i ⟨h3, h4⟩
  refine T_auto TT_ok rfl ?_
  refine T_condD rfl (fun e2 => ?_) (fun e2 => ?_)
  · have hi : i < xs.length := by omega
    have hs := sumW_take (w := wRecord) (z := GRecord.z) hi
    have hs2 := sumW_take_le (w := wRecord) xs (i + 1)
    refine T_auto TT_ok rfl ?_
    refine RJ_Q TT_ok (szRecord_g _ (hb.2 i hi) _ h4 (by omega)) rfl rfl rfl rfl rfl ?_
    refine T_condD rfl (fun e3 => ?_) (fun e3 => ?_)
    · have h5 := szI_neg.1 e3
      refine T_auto TT_ok rfl ?_
      exact T_ansI TT_ok [(4, none)] rfl rfl ((szI_mono (szI_neg.2 (by omega)) (Nat.le_refl _)).symm)
    · have h5 := szI_in e3
      refine T_auto TT_ok rfl ?_
      exact X_inv (i + 1) ⟨hi, by omega⟩ (by omega) ⟨⟨_, rfl, SV.imp_refl _⟩, ⟨_, rfl, SV.imp_of (vI_eq (by omega))⟩, (by repeat (first | exact trivial | refine And.intro ⟨_, rfl, SV.imp_refl _⟩ ?_))⟩ (by repeat (first | exact trivial | refine And.intro ⟨_, rfl, Ch.imp_refl _⟩ ?_))
  · have hi : i = xs.length := by omega
    subst hi
    rw [List.take_length] at h4 ⊢
    refine T_auto TT_ok rfl ?_
    exact T_ansI TT_ok [(4, none)] rfl rfl (by rw [szI_yes (by omega)]; omega)
theorem eqRecordS_q (xs : List GRecord) (hb : D.bd bigN (dL 4 cRecord GRecord.z xs)) : Ans Tryz.prog 172 [] [vL 4 cRecord GRecord.z xs, vL 4 cRecord GRecord.z xs] [] (vB true) := by
  have hl : xs.length ≤ 1048576 := hb.1
  refine con_enter Tryz.func172 rfl rfl rfl fun B0 r_ D_ w0 => ?_
  refine T_auto TT_ok rfl ?_
  refine T_condN rfl (fun e => absurd rfl e) (fun _ => ?_)
  refine T_auto TT_ok rfl ?_
  refine T_loopA (ι := Nat) (fun i => [(5, vI i)]) (fun _ => []) (fun i => i ≤ xs.length) (fun i => xs.length - i) 0 [] [] rfl rfl (Nat.zero_le _) (by repeat (first | exact trivial | refine And.intro ⟨_, rfl, SV.imp_refl _⟩ ?_)) (by repeat (first | exact trivial | refine And.intro ⟨_, rfl, Ch.imp_refl _⟩ ?_)) ?_
  intro i h1
  refine T_auto TT_ok rfl ?_
  refine T_condD rfl (fun e => ?_) (fun e => ?_)
  · have hi : i < xs.length := by omega
    refine T_auto TT_ok rfl ?_
    refine T_drawA TT_ok [] rfl rfl fun B0 H0 => ?_
    refine DJ_Q TT_ok (eqRecord_g _ (hb.2 i hi)) rfl rfl rfl rfl rfl rfl ?_
    refine DJ_endA TT_ok rfl ?_
    refine T_cond rfl (fun e => by cases e) (fun _ => ?_)
    refine T_auto TT_ok rfl ?_
    exact X_inv (i + 1) hi (by omega) (by repeat (first | exact trivial | refine And.intro ⟨_, rfl, SV.imp_refl _⟩ ?_)) (by repeat (first | exact trivial | refine And.intro ⟨_, rfl, Ch.imp_refl _⟩ ?_))
  · refine T_auto TT_ok rfl ?_
    exact T_ansB TT_ok [(4, none)] rfl rfl (rfl)
theorem toRecordS_m (xs : List GRecord) (hb : D.bd bigN (dL 4 cRecord GRecord.z xs)) : MkL Tryz.prog 135 [vL 4 cRecord GRecord.z xs] 4 cRecord GRecord.z xs := by
  have hl : xs.length ≤ 1048576 := hb.1
  refine con_enter Tryz.func135 rfl rfl rfl fun B0 r_ D_ w0 => ?_
  refine T_auto TT_ok rfl ?_
  refine RJ_make TT_ok 7 xs.length rfl rfl rfl rfl rfl rfl rfl ⟨by simp; omega, by unfold maxL; omega⟩ ?_
  refine RJ_auto TT_ok rfl ?_
  refine T_loopA (ι := Nat) (fun i => [(4, vI i)]) (fun i => [(7, .arr 4 xs.length fun k => cRecord (if k < i then xs.getD k GRecord.z else GRecord.z))]) (fun i => i ≤ xs.length) (fun i => xs.length - i) 0 [7] [] rfl rfl (Nat.zero_le _) (by repeat (first | exact trivial | refine And.intro ⟨_, rfl, SV.imp_refl _⟩ ?_)) ⟨⟨_, rfl, Ch.imp_own rfl fun k hk => by rw [if_neg (Nat.not_lt_zero _)]; exact OwnI.c (OwnI.c (OwnI.c (OwnI.n OwnI.e)))⟩, trivial⟩ ?_
  intro i h1
  refine T_auto TT_ok rfl ?_
  refine T_condD rfl (fun e => ?_) (fun e => ?_)
  · have hi : i < xs.length := by omega
    refine T_auto TT_ok rfl ?_
    refine RJ_C TT_ok (Con.sw 901 2901 (toRecord_g _ (hb.2 i hi))) rfl rfl (SVs.imp_refl _) (fun _ => rfl) rfl rfl rfl fun _ _ => ?_
    refine RJ_auto TT_ok rfl ?_
    refine RJ_view (V_carve 7 i 7000 (l := [.v (.int .i64 0), .v (.int .i64 0), .v (.int .i64 0), .s .o 5 0 fun i => cSet (([] : List GSet).getD i GSet.z)]) rfl (by rw [if_neg (by omega : ¬ ((i : Int)).toNat < i)]; rfl) rfl rfl rfl rfl ⟨by omega, by omega⟩) ?_
    refine RJ_view (V_pe 21 rfl rfl rfl) ?_
    refine RJ_auto TT_ok rfl ?_
    refine X_view (V_fold 7000 3 2901 rfl rfl rfl rfl rfl rfl rfl) ?_
    refine X_view (V_uncarve 7 7000 rfl rfl rfl rfl rfl rfl rfl) ?_
    exact X_inv (i + 1) hi (by omega) (by repeat (first | exact trivial | refine And.intro ⟨_, rfl, SV.imp_refl _⟩ ?_)) ⟨⟨_, rfl, Ch.imp_arr fun k hk => fill_step (fun x => cRecord x) rfl⟩, (by repeat (first | exact trivial | refine And.intro ⟨_, rfl, Ch.imp_refl _⟩ ?_))⟩
  · have hi : i = xs.length := by omega
    subst hi
    refine T_auto TT_ok rfl ?_
    refine T_view (V_sw 7 900) ?_
    refine T_ret TT_ok (()) [(2, none)] rfl rfl ?_ ?_ ?_
    · exact SVs.imp_refl _
    · exact ⟨⟨_, rfl, Ch.imp_arr fun k hk => by rw [if_pos hk]⟩, trivial⟩
    · trivial
theorem mRecord_eq (x : GRecord) : mRecord x = 0+1+1+1+(5 * x.sets.length) := by unfold mRecord; omega
theorem markRecordS_w (xs : List GRecord) (hb : D.bd bigN (dL 4 cRecord GRecord.z xs)) (k0 : Int) (h1 : 0 ≤ k0) (h2 : k0 + (sumW mRecord xs : Nat) ≤ 1000000000000) : Con Tryz.prog 95 [900] [.a (.g 900), vI k0] [(900, arrC 4 cRecord GRecord.z xs)] (fun _ : Unit => True) (fun _ => [vI (k0 + (sumW mRecord xs : Nat))]) fun _ => [(900, arrC 4 cRecord GRecord.z (mkL mkRecord mRecord GRecord.z xs k0))] := by
  have hl : xs.length ≤ 1048576 := hb.1
  refine con_enter Tryz.func95 rfl rfl rfl fun B0 r_ D_ w0 => ?_
  refine T_auto TT_ok rfl ?_
  refine T_loopA (ι := Nat) (fun i => [(5, vI i), (1, vI (k0 + (sumW mRecord (xs.take i) : Nat)))]) (fun i => [(900, .arr 4 xs.length fun j => cRecord (if j < i then mkRecord (xs.getD j GRecord.z) (k0 + (sumW mRecord (xs.take j) : Nat)) else xs.getD j GRecord.z))]) (fun i => i ≤ xs.length) (fun i => xs.length - i) 0 [900] [] rfl rfl (Nat.zero_le _) ⟨⟨_, rfl, SV.imp_refl _⟩, ⟨_, rfl, SV.imp_of (vI_eq (by simp [sumW]))⟩, trivial⟩ ⟨⟨_, rfl, Ch.imp_arr fun k hk => by rw [if_neg (Nat.not_lt_zero _)]⟩, trivial⟩ ?_
  intro i h3
  refine T_auto TT_ok rfl ?_
  refine T_condD rfl (fun e => ?_) (fun e => ?_)
  · have hi : i < xs.length := by omega
    have hs := sumW_take (w := mRecord) (z := GRecord.z) hi
    have hs2 := sumW_take_le (w := mRecord) xs (i + 1)
    have hm := mRecord_eq (xs.getD i GRecord.z)
    have ht : sumW mRecord (xs.take ((i : Int)).toNat) = sumW mRecord (xs.take i) := rfl
    refine T_view (V_carve 900 i 7000 (l := [.v (.int .i64 (xs.getD i GRecord.z).kind), .v (.int .i64 (xs.getD i GRecord.z).tx), .v (.int .i64 (xs.getD i GRecord.z).region), .s .o 5 (xs.getD i GRecord.z).sets.length fun j => cSet ((xs.getD i GRecord.z).sets.getD j GSet.z)]) rfl (by rw [if_neg (by omega : ¬ ((i : Int)).toNat < i)]; rfl) rfl rfl rfl rfl ⟨by omega, by omega⟩) ?_
    refine T_view (V_open 7000 3 7001 rfl rfl rfl rfl rfl rfl) ?_
    refine T_auto TT_ok rfl ?_
    refine RJ_view (V_pe 16 rfl rfl rfl) ?_
    refine RJ_auto TT_ok rfl ?_
    refine RJ_view (V_pe 23 rfl rfl rfl) ?_
    refine RJ_auto TT_ok rfl ?_
    refine RJ_view (V_pe 30 rfl rfl rfl) ?_
    refine RJ_auto TT_ok rfl ?_
    refine RJ_view (V_pe 36 rfl rfl rfl) ?_
    refine RJ_auto TT_ok rfl ?_
    refine RJ_C TT_ok (Con.sw 900 7001 (markSetS_w (xs.getD i GRecord.z).sets (hb.2 i hi).2.2.2.1.1 _ (by omega) (by omega))) rfl rfl (SVs.imp_refl _) (fun _ => rfl) rfl rfl rfl fun _ _ => ?_
    refine RJ_auto TT_ok rfl ?_
    refine X_view (V_fold 7000 3 7001 rfl rfl rfl rfl rfl rfl rfl) ?_
    refine X_view (V_uncarve 900 7000 rfl rfl rfl rfl rfl rfl rfl) ?_
    exact X_inv (i + 1) hi (by omega) ⟨⟨_, rfl, SV.imp_refl _⟩, ⟨_, rfl, SV.imp_of (vI_eq (by omega))⟩, (by repeat (first | exact trivial | refine And.intro ⟨_, rfl, SV.imp_refl _⟩ ?_))⟩ ⟨⟨_, rfl, Ch.imp_arr fun k hk => fill_step2 (i := i) (k := k) (fun x => cRecord x) (fun j => mkRecord (xs.getD j GRecord.z) (k0 + (sumW mRecord (xs.take j) : Nat))) (o := fun j => xs.getD j GRecord.z) (by rfl)⟩, (by repeat (first | exact trivial | refine And.intro ⟨_, rfl, Ch.imp_refl _⟩ ?_))⟩
  · have hi : i = xs.length := by omega
    subst hi
    rw [List.take_length]
    refine T_auto TT_ok rfl ?_
    refine T_ret TT_ok (()) [(4, none)] rfl rfl ?_ ?_ ?_
    · exact SVs.imp_refl _
    · exact ⟨⟨_, rfl, Ch.imp_len (tab_length _ _).symm fun k hk => by rw [if_pos hk, mkL, tab_getD hk]⟩, trivial⟩
    · trivial
theorem heldRecordS_w (xs : List GRecord) (hb : D.bd bigN (dL 4 cRecord GRecord.z xs)) (k0 : Int) (h1 : 0 ≤ k0) (h2 : k0 + (sumW mRecord xs : Nat) ≤ 1000000000000) : Ans Tryz.prog 100 [] [vL 4 cRecord GRecord.z (mkL mkRecord mRecord GRecord.z xs k0), vI k0] [] (vI (k0 + (sumW mRecord xs : Nat))) := by
  have hl : xs.length ≤ 1048576 := hb.1
  refine Con.wkA (args := [.a (.s .r 4 xs.length fun j => cRecord (mkRecord (xs.getD j GRecord.z) (k0 + (sumW mRecord (xs.take j) : Nat)))), vI k0]) ?_ ⟨_, _, rfl, imp_untabS, SVs.imp_refl _⟩
  refine con_enter Tryz.func100 rfl rfl rfl fun B0 r_ D_ w0 => ?_
  refine T_auto TT_ok rfl ?_
  refine T_loopA (ι := Nat) (fun i => [(5, vI i), (1, vI (k0 + (sumW mRecord (xs.take i) : Nat)))]) (fun _ => []) (fun i => i ≤ xs.length) (fun i => xs.length - i) 0 [] [] rfl rfl (Nat.zero_le _) ⟨⟨_, rfl, SV.imp_refl _⟩, ⟨_, rfl, SV.imp_of (vI_eq (by simp [sumW]))⟩, trivial⟩ (by repeat (first | exact trivial | refine And.intro ⟨_, rfl, Ch.imp_refl _⟩ ?_)) ?_
  intro i h3
  refine T_auto TT_ok rfl ?_
  refine T_condD rfl (fun e => ?_) (fun e => ?_)
  · have hi : i < xs.length := by omega
    have hs := sumW_take (w := mRecord) (z := GRecord.z) hi
    have hs2 := sumW_take_le (w := mRecord) xs (i + 1)
    have hm := mRecord_eq (xs.getD i GRecord.z)
    have ht : sumW mRecord (xs.take ((i : Int)).toNat) = sumW mRecord (xs.take i) := rfl
    refine T_auto TT_ok rfl ?_
    refine T_condN rfl (fun e => absurd rfl e) (fun _ => ?_)
    refine T_auto TT_ok rfl ?_
    refine T_condN rfl (fun e => absurd rfl e) (fun _ => ?_)
    refine T_auto TT_ok rfl ?_
    refine T_condN rfl (fun e => absurd rfl e) (fun _ => ?_)
    refine T_auto TT_ok rfl ?_
    refine RJ_Q TT_ok (heldSetS_w (xs.getD i GRecord.z).sets (hb.2 i hi).2.2.2.1.1 _ (by (try simp only [Int.toNat_natCast] at *); omega) (by (try simp only [Int.toNat_natCast] at *); omega)) rfl rfl rfl rfl rfl ?_
    refine T_condD rfl (fun e => by (try simp only [Int.toNat_natCast] at *); omega) (fun _ => ?_)
    refine T_auto TT_ok rfl ?_
    exact X_inv (i + 1) hi (by omega) ⟨⟨_, rfl, SV.imp_refl _⟩, ⟨_, rfl, SV.imp_of (vI_eq (by (try simp only [Int.toNat_natCast] at *); omega))⟩, (by repeat (first | exact trivial | refine And.intro ⟨_, rfl, SV.imp_refl _⟩ ?_))⟩ (by repeat (first | exact trivial | refine And.intro ⟨_, rfl, Ch.imp_refl _⟩ ?_))
  · have hi : i = xs.length := by omega
    subst hi
    rw [List.take_length]
    refine T_auto TT_ok rfl ?_
    exact T_ansI TT_ok [(4, none)] rfl rfl (rfl)
abbrev agCopyG (x : GCopy) (k1 : Nat) : SV := .ag [.v (.int .i64 x.region), .g k1]
theorem szCopy_g (x : GCopy) (hb : D.bds maxL (cCopy x)) (l : Int) (h1 : 0 ≤ l) (h2 : l ≤ 1048576) : Ans Tryz.prog 198 [] [vR (cCopy x), vI l] [] (vI (szI l (wCopy x))) := by
  unfold wCopy
  refine con_enter Tryz.func198 rfl rfl rfl fun B0 r_ D_ w0 => ?_
  refine T_auto TT_ok rfl ?_
  refine RJ_Q TT_ok (szCellS_q _ hb.2.1.1 _ h1 h2) rfl rfl rfl rfl rfl ?_
  refine T_condD rfl (fun e1 => ?_) (fun e1 => ?_)
  · refine T_auto TT_ok rfl ?_
    exact T_ansI TT_ok [(4, none)] rfl rfl (by exact (szI_mono e1 (by omega)).symm)
  have e1r := e1
  refine T_auto TT_ok rfl ?_
  exact T_ansI TT_ok [(4, none)] rfl rfl (rfl)
theorem toCopy_g (x : GCopy) (hb : D.bds bigN (cCopy x)) : Con Tryz.prog 202 [] [vR (cCopy x)] [] (fun _ : Unit => True) (fun _ => [agCopyG x 901]) fun _ => [(901, arrC 2 cCell GCell.z x.cells)] := by
  refine con_enter Tryz.func202 rfl rfl rfl fun B0 r_ D_ w0 => ?_
  refine T_auto TT_ok rfl ?_
  refine RJ_C TT_ok (Con.sw 900 901 (toCellS_m x.cells hb.2.1.1)) rfl rfl (SVs.imp_refl _) (fun _ => rfl) rfl rfl rfl fun _ _ => ?_
  refine RJ_auto TT_ok rfl ?_
  refine T_ret TT_ok (()) [(2, some 80)] rfl rfl ?_ ?_ ?_
  · exact SVs.imp_refl _
  · exact ⟨⟨_, rfl, Ch.imp_refl _⟩, trivial⟩
  · trivial
theorem eqCopy_g (x : GCopy) (hb : D.bds bigN (cCopy x)) : Ans Tryz.prog 229 [] [vR (cCopy x), vR (cCopy x)] [] (vB true) := by
  refine con_enter Tryz.func229 rfl rfl rfl fun B0 r_ D_ w0 => ?_
  refine T_auto TT_ok rfl ?_
  refine T_condN rfl (fun e => absurd rfl e) (fun _ => ?_)
  refine T_auto TT_ok rfl ?_
  refine RJ_Q TT_ok (eqCellS_q _ hb.2.1.1) rfl rfl rfl rfl rfl ?_
  refine T_cond rfl (fun e => by cases e) (fun _ => ?_)
  refine T_auto TT_ok rfl ?_
  exact T_ansB TT_ok [(4, none)] rfl rfl (rfl)
theorem szCopyS_q (xs : List GCopy) (hb : D.bd maxL (dL 2 cCopy GCopy.z xs)) (l : Int) (h1 : 0 ≤ l) (h2 : l ≤ 1048576) : Ans Tryz.prog 122 [] [vL 2 cCopy GCopy.z xs, vI l] [] (vI (szI l (wL wCopy xs))) := by
  have hx : xs.length ≤ maxL := hb.1
  unfold maxL at hx
  unfold wL
  refine con_enter Tryz.func122 rfl rfl rfl fun B0 r_ D_ w0 => ?_
  refine T_auto TT_ok rfl ?_
  refine T_condD rfl (fun e => ?_) (fun e => ?_)
  · refine T_auto TT_ok rfl ?_
    exact T_ansI TT_ok [(4, none)] rfl rfl ((szI_mono (szI_no e) (Nat.le_add_right _ _)).symm)
  refine T_auto TT_ok rfl ?_
  refine T_loopA (ι := Nat) (fun i => [(5, vI i), (1, vI (l - xs.length - (sumW wCopy (xs.take i) : Nat)))]) (fun _ => []) (fun i => i ≤ xs.length ∧ 0 ≤ l - xs.length - (sumW wCopy (xs.take i) : Nat)) (fun i => xs.length - i) 0 [] [] rfl rfl ⟨Nat.zero_le _, by simp [sumW]; omega⟩ ⟨⟨_, rfl, SV.imp_refl _⟩, ⟨_, rfl, SV.imp_of (vI_eq (by simp [sumW]))⟩, trivial⟩ (by repeat (first | exact trivial | refine And.intro ⟨_, rfl, Ch.imp_refl _⟩ ?_)) ?_
  intro i ⟨h3, h4⟩
  refine T_auto TT_ok rfl ?_
  refine T_condD rfl (fun e2 => ?_) (fun e2 => ?_)
  · have hi : i < xs.length := by omega
    have hs := sumW_take (w := wCopy) (z := GCopy.z) hi
    have hs2 := sumW_take_le (w := wCopy) xs (i + 1)
    refine T_auto TT_ok rfl ?_
    refine RJ_Q TT_ok (szCopy_g _ (hb.2 i hi) _ h4 (by omega)) rfl rfl rfl rfl rfl ?_
    refine T_condD rfl (fun e3 => ?_) (fun e3 => ?_)
    · have h5 := szI_neg.1 e3
      refine T_auto TT_ok rfl ?_
      exact T_ansI TT_ok [(4, none)] rfl rfl ((szI_mono (szI_neg.2 (by omega)) (Nat.le_refl _)).symm)
    · have h5 := szI_in e3
      refine T_auto TT_ok rfl ?_
      exact X_inv (i + 1) ⟨hi, by omega⟩ (by omega) ⟨⟨_, rfl, SV.imp_refl _⟩, ⟨_, rfl, SV.imp_of (vI_eq (by omega))⟩, (by repeat (first | exact trivial | refine And.intro ⟨_, rfl, SV.imp_refl _⟩ ?_))⟩ (by repeat (first | exact trivial | refine And.intro ⟨_, rfl, Ch.imp_refl _⟩ ?_))
  · have hi : i = xs.length := by omega
    subst hi
    rw [List.take_length] at h4 ⊢
    refine T_auto TT_ok rfl ?_
    exact T_ansI TT_ok [(4, none)] rfl rfl (by rw [szI_yes (by omega)]; omega)
theorem eqCopyS_q (xs : List GCopy) (hb : D.bd bigN (dL 2 cCopy GCopy.z xs)) : Ans Tryz.prog 171 [] [vL 2 cCopy GCopy.z xs, vL 2 cCopy GCopy.z xs] [] (vB true) := by
  have hl : xs.length ≤ 1048576 := hb.1
  refine con_enter Tryz.func171 rfl rfl rfl fun B0 r_ D_ w0 => ?_
  refine T_auto TT_ok rfl ?_
  refine T_condN rfl (fun e => absurd rfl e) (fun _ => ?_)
  refine T_auto TT_ok rfl ?_
  refine T_loopA (ι := Nat) (fun i => [(5, vI i)]) (fun _ => []) (fun i => i ≤ xs.length) (fun i => xs.length - i) 0 [] [] rfl rfl (Nat.zero_le _) (by repeat (first | exact trivial | refine And.intro ⟨_, rfl, SV.imp_refl _⟩ ?_)) (by repeat (first | exact trivial | refine And.intro ⟨_, rfl, Ch.imp_refl _⟩ ?_)) ?_
  intro i h1
  refine T_auto TT_ok rfl ?_
  refine T_condD rfl (fun e => ?_) (fun e => ?_)
  · have hi : i < xs.length := by omega
    refine T_auto TT_ok rfl ?_
    refine T_drawA TT_ok [] rfl rfl fun B0 H0 => ?_
    refine DJ_Q TT_ok (eqCopy_g _ (hb.2 i hi)) rfl rfl rfl rfl rfl rfl ?_
    refine DJ_endA TT_ok rfl ?_
    refine T_cond rfl (fun e => by cases e) (fun _ => ?_)
    refine T_auto TT_ok rfl ?_
    exact X_inv (i + 1) hi (by omega) (by repeat (first | exact trivial | refine And.intro ⟨_, rfl, SV.imp_refl _⟩ ?_)) (by repeat (first | exact trivial | refine And.intro ⟨_, rfl, Ch.imp_refl _⟩ ?_))
  · refine T_auto TT_ok rfl ?_
    exact T_ansB TT_ok [(4, none)] rfl rfl (rfl)
theorem toCopyS_m (xs : List GCopy) (hb : D.bd bigN (dL 2 cCopy GCopy.z xs)) : MkL Tryz.prog 134 [vL 2 cCopy GCopy.z xs] 2 cCopy GCopy.z xs := by
  have hl : xs.length ≤ 1048576 := hb.1
  refine con_enter Tryz.func134 rfl rfl rfl fun B0 r_ D_ w0 => ?_
  refine T_auto TT_ok rfl ?_
  refine RJ_make TT_ok 7 xs.length rfl rfl rfl rfl rfl rfl rfl ⟨by simp; omega, by unfold maxL; omega⟩ ?_
  refine RJ_auto TT_ok rfl ?_
  refine T_loopA (ι := Nat) (fun i => [(4, vI i)]) (fun i => [(7, .arr 2 xs.length fun k => cCopy (if k < i then xs.getD k GCopy.z else GCopy.z))]) (fun i => i ≤ xs.length) (fun i => xs.length - i) 0 [7] [] rfl rfl (Nat.zero_le _) (by repeat (first | exact trivial | refine And.intro ⟨_, rfl, SV.imp_refl _⟩ ?_)) ⟨⟨_, rfl, Ch.imp_own rfl fun k hk => by rw [if_neg (Nat.not_lt_zero _)]; exact OwnI.c (OwnI.n OwnI.e)⟩, trivial⟩ ?_
  intro i h1
  refine T_auto TT_ok rfl ?_
  refine T_condD rfl (fun e => ?_) (fun e => ?_)
  · have hi : i < xs.length := by omega
    refine T_auto TT_ok rfl ?_
    refine RJ_C TT_ok (Con.sw 901 2901 (toCopy_g _ (hb.2 i hi))) rfl rfl (SVs.imp_refl _) (fun _ => rfl) rfl rfl rfl fun _ _ => ?_
    refine RJ_auto TT_ok rfl ?_
    refine RJ_view (V_carve 7 i 7000 (l := [.v (.int .i64 0), .s .o 2 0 fun i => cCell (([] : List GCell).getD i GCell.z)]) rfl (by rw [if_neg (by omega : ¬ ((i : Int)).toNat < i)]; rfl) rfl rfl rfl rfl ⟨by omega, by omega⟩) ?_
    refine RJ_view (V_pe 21 rfl rfl rfl) ?_
    refine RJ_auto TT_ok rfl ?_
    refine X_view (V_fold 7000 1 2901 rfl rfl rfl rfl rfl rfl rfl) ?_
    refine X_view (V_uncarve 7 7000 rfl rfl rfl rfl rfl rfl rfl) ?_
    exact X_inv (i + 1) hi (by omega) (by repeat (first | exact trivial | refine And.intro ⟨_, rfl, SV.imp_refl _⟩ ?_)) ⟨⟨_, rfl, Ch.imp_arr fun k hk => fill_step (fun x => cCopy x) rfl⟩, (by repeat (first | exact trivial | refine And.intro ⟨_, rfl, Ch.imp_refl _⟩ ?_))⟩
  · have hi : i = xs.length := by omega
    subst hi
    refine T_auto TT_ok rfl ?_
    refine T_view (V_sw 7 900) ?_
    refine T_ret TT_ok (()) [(2, none)] rfl rfl ?_ ?_ ?_
    · exact SVs.imp_refl _
    · exact ⟨⟨_, rfl, Ch.imp_arr fun k hk => by rw [if_pos hk]⟩, trivial⟩
    · trivial
theorem mCopy_eq (x : GCopy) : mCopy x = 0+1+(2 * x.cells.length) := by unfold mCopy; omega
theorem markCopyS_w (xs : List GCopy) (hb : D.bd bigN (dL 2 cCopy GCopy.z xs)) (k0 : Int) (h1 : 0 ≤ k0) (h2 : k0 + (sumW mCopy xs : Nat) ≤ 1000000000000) : Con Tryz.prog 94 [900] [.a (.g 900), vI k0] [(900, arrC 2 cCopy GCopy.z xs)] (fun _ : Unit => True) (fun _ => [vI (k0 + (sumW mCopy xs : Nat))]) fun _ => [(900, arrC 2 cCopy GCopy.z (mkL mkCopy mCopy GCopy.z xs k0))] := by
  have hl : xs.length ≤ 1048576 := hb.1
  refine con_enter Tryz.func94 rfl rfl rfl fun B0 r_ D_ w0 => ?_
  refine T_auto TT_ok rfl ?_
  refine T_loopA (ι := Nat) (fun i => [(5, vI i), (1, vI (k0 + (sumW mCopy (xs.take i) : Nat)))]) (fun i => [(900, .arr 2 xs.length fun j => cCopy (if j < i then mkCopy (xs.getD j GCopy.z) (k0 + (sumW mCopy (xs.take j) : Nat)) else xs.getD j GCopy.z))]) (fun i => i ≤ xs.length) (fun i => xs.length - i) 0 [900] [] rfl rfl (Nat.zero_le _) ⟨⟨_, rfl, SV.imp_refl _⟩, ⟨_, rfl, SV.imp_of (vI_eq (by simp [sumW]))⟩, trivial⟩ ⟨⟨_, rfl, Ch.imp_arr fun k hk => by rw [if_neg (Nat.not_lt_zero _)]⟩, trivial⟩ ?_
  intro i h3
  refine T_auto TT_ok rfl ?_
  refine T_condD rfl (fun e => ?_) (fun e => ?_)
  · have hi : i < xs.length := by omega
    have hs := sumW_take (w := mCopy) (z := GCopy.z) hi
    have hs2 := sumW_take_le (w := mCopy) xs (i + 1)
    have hm := mCopy_eq (xs.getD i GCopy.z)
    have ht : sumW mCopy (xs.take ((i : Int)).toNat) = sumW mCopy (xs.take i) := rfl
    refine T_view (V_carve 900 i 7000 (l := [.v (.int .i64 (xs.getD i GCopy.z).region), .s .o 2 (xs.getD i GCopy.z).cells.length fun j => cCell ((xs.getD i GCopy.z).cells.getD j GCell.z)]) rfl (by rw [if_neg (by omega : ¬ ((i : Int)).toNat < i)]; rfl) rfl rfl rfl rfl ⟨by omega, by omega⟩) ?_
    refine T_view (V_open 7000 1 7001 rfl rfl rfl rfl rfl rfl) ?_
    refine T_auto TT_ok rfl ?_
    refine RJ_view (V_pe 16 rfl rfl rfl) ?_
    refine RJ_auto TT_ok rfl ?_
    refine RJ_view (V_pe 22 rfl rfl rfl) ?_
    refine RJ_auto TT_ok rfl ?_
    refine RJ_C TT_ok (Con.sw 900 7001 (markCellS_w (xs.getD i GCopy.z).cells (hb.2 i hi).2.1.1 _ (by omega) (by omega))) rfl rfl (SVs.imp_refl _) (fun _ => rfl) rfl rfl rfl fun _ _ => ?_
    refine RJ_auto TT_ok rfl ?_
    refine X_view (V_fold 7000 1 7001 rfl rfl rfl rfl rfl rfl rfl) ?_
    refine X_view (V_uncarve 900 7000 rfl rfl rfl rfl rfl rfl rfl) ?_
    exact X_inv (i + 1) hi (by omega) ⟨⟨_, rfl, SV.imp_refl _⟩, ⟨_, rfl, SV.imp_of (vI_eq (by omega))⟩, (by repeat (first | exact trivial | refine And.intro ⟨_, rfl, SV.imp_refl _⟩ ?_))⟩ ⟨⟨_, rfl, Ch.imp_arr fun k hk => fill_step2 (i := i) (k := k) (fun x => cCopy x) (fun j => mkCopy (xs.getD j GCopy.z) (k0 + (sumW mCopy (xs.take j) : Nat))) (o := fun j => xs.getD j GCopy.z) (by rfl)⟩, (by repeat (first | exact trivial | refine And.intro ⟨_, rfl, Ch.imp_refl _⟩ ?_))⟩
  · have hi : i = xs.length := by omega
    subst hi
    rw [List.take_length]
    refine T_auto TT_ok rfl ?_
    refine T_ret TT_ok (()) [(4, none)] rfl rfl ?_ ?_ ?_
    · exact SVs.imp_refl _
    · exact ⟨⟨_, rfl, Ch.imp_len (tab_length _ _).symm fun k hk => by rw [if_pos hk, mkL, tab_getD hk]⟩, trivial⟩
    · trivial
theorem heldCopyS_w (xs : List GCopy) (hb : D.bd bigN (dL 2 cCopy GCopy.z xs)) (k0 : Int) (h1 : 0 ≤ k0) (h2 : k0 + (sumW mCopy xs : Nat) ≤ 1000000000000) : Ans Tryz.prog 99 [] [vL 2 cCopy GCopy.z (mkL mkCopy mCopy GCopy.z xs k0), vI k0] [] (vI (k0 + (sumW mCopy xs : Nat))) := by
  have hl : xs.length ≤ 1048576 := hb.1
  refine Con.wkA (args := [.a (.s .r 2 xs.length fun j => cCopy (mkCopy (xs.getD j GCopy.z) (k0 + (sumW mCopy (xs.take j) : Nat)))), vI k0]) ?_ ⟨_, _, rfl, imp_untabS, SVs.imp_refl _⟩
  refine con_enter Tryz.func99 rfl rfl rfl fun B0 r_ D_ w0 => ?_
  refine T_auto TT_ok rfl ?_
  refine T_loopA (ι := Nat) (fun i => [(5, vI i), (1, vI (k0 + (sumW mCopy (xs.take i) : Nat)))]) (fun _ => []) (fun i => i ≤ xs.length) (fun i => xs.length - i) 0 [] [] rfl rfl (Nat.zero_le _) ⟨⟨_, rfl, SV.imp_refl _⟩, ⟨_, rfl, SV.imp_of (vI_eq (by simp [sumW]))⟩, trivial⟩ (by repeat (first | exact trivial | refine And.intro ⟨_, rfl, Ch.imp_refl _⟩ ?_)) ?_
  intro i h3
  refine T_auto TT_ok rfl ?_
  refine T_condD rfl (fun e => ?_) (fun e => ?_)
  · have hi : i < xs.length := by omega
    have hs := sumW_take (w := mCopy) (z := GCopy.z) hi
    have hs2 := sumW_take_le (w := mCopy) xs (i + 1)
    have hm := mCopy_eq (xs.getD i GCopy.z)
    have ht : sumW mCopy (xs.take ((i : Int)).toNat) = sumW mCopy (xs.take i) := rfl
    refine T_auto TT_ok rfl ?_
    refine T_condN rfl (fun e => absurd rfl e) (fun _ => ?_)
    refine T_auto TT_ok rfl ?_
    refine RJ_Q TT_ok (heldCellS_w (xs.getD i GCopy.z).cells (hb.2 i hi).2.1.1 _ (by (try simp only [Int.toNat_natCast] at *); omega) (by (try simp only [Int.toNat_natCast] at *); omega)) rfl rfl rfl rfl rfl ?_
    refine T_condD rfl (fun e => by (try simp only [Int.toNat_natCast] at *); omega) (fun _ => ?_)
    refine T_auto TT_ok rfl ?_
    exact X_inv (i + 1) hi (by omega) ⟨⟨_, rfl, SV.imp_refl _⟩, ⟨_, rfl, SV.imp_of (vI_eq (by (try simp only [Int.toNat_natCast] at *); omega))⟩, (by repeat (first | exact trivial | refine And.intro ⟨_, rfl, SV.imp_refl _⟩ ?_))⟩ (by repeat (first | exact trivial | refine And.intro ⟨_, rfl, Ch.imp_refl _⟩ ?_))
  · have hi : i = xs.length := by omega
    subst hi
    rw [List.take_length]
    refine T_auto TT_ok rfl ?_
    exact T_ansI TT_ok [(4, none)] rfl rfl (rfl)
abbrev agMachineG (x : GMachine) (k1 k2 k3 : Nat) : SV := .ag [.v (.bool x.alive), .g k1, .g k2, .g k3]
theorem szMachine_g (x : GMachine) (hb : D.bds maxL (cMachine x)) (l : Int) (h1 : 0 ≤ l) (h2 : l ≤ 1048576) : Ans Tryz.prog 51 [] [vR (cMachine x), vI l] [] (vI (szI l (wMachine x))) := by
  unfold wMachine
  refine con_enter Tryz.func51 rfl rfl rfl fun B0 r_ D_ w0 => ?_
  refine T_auto TT_ok rfl ?_
  refine RJ_Q TT_ok (szCopyS_q _ hb.2.1 _ h1 h2) rfl rfl rfl rfl rfl ?_
  refine T_condD rfl (fun e1 => ?_) (fun e1 => ?_)
  · refine T_auto TT_ok rfl ?_
    exact T_ansI TT_ok [(4, none)] rfl rfl (by exact (szI_mono e1 (by omega)).symm)
  have e1r := e1
  refine T_auto TT_ok rfl ?_
  refine RJ_Q TT_ok (szRecordS_q _ hb.2.2.1 _ (szI_in e1).1 (Int.le_trans (szI_in e1).2.1 h2)) rfl rfl rfl rfl rfl ?_
  refine T_condD rfl (fun e2 => ?_) (fun e2 => ?_)
  · refine T_auto TT_ok rfl ?_
    exact T_ansI TT_ok [(4, none)] rfl rfl (by rw [szI_ge e1r] at e2; exact (szI_mono e2 (by omega)).symm)
  have e2r := e2
  rw [szI_ge e1r] at e2r
  refine T_auto TT_ok rfl ?_
  refine RJ_Q TT_ok (szInt64S_q _ hb.2.2.2.1.1 _ (szI_in e2).1 (Int.le_trans (szI_in e2).2.1 (Int.le_trans (szI_in e1).2.1 h2))) rfl rfl rfl rfl rfl ?_
  refine T_condD rfl (fun e3 => ?_) (fun e3 => ?_)
  · refine T_auto TT_ok rfl ?_
    exact T_ansI TT_ok [(4, none)] rfl rfl (by rw [szI_ge e1r, szI_ge e2r] at e3; exact (szI_mono e3 (by omega)).symm)
  have e3r := e3
  rw [szI_ge e1r, szI_ge e2r] at e3r
  refine T_auto TT_ok rfl ?_
  exact T_ansI TT_ok [(4, none)] rfl rfl (by rw [szI_ge e1r, szI_ge e2r])
theorem toMachine_g (x : GMachine) (hb : D.bds bigN (cMachine x)) : Con Tryz.prog 68 [] [vR (cMachine x)] [] (fun _ : Unit => True) (fun _ => [agMachineG x 901 902 903]) fun _ => [(901, arrC 2 cCopy GCopy.z x.copies), (902, arrC 4 cRecord GRecord.z x.log), (903, arrC 1 cInt 0 x.cleared)] := by
  refine con_enter Tryz.func68 rfl rfl rfl fun B0 r_ D_ w0 => ?_
  refine T_auto TT_ok rfl ?_
  refine RJ_C TT_ok (Con.sw 900 901 (toCopyS_m x.copies hb.2.1)) rfl rfl (SVs.imp_refl _) (fun _ => rfl) rfl rfl rfl fun _ _ => ?_
  refine RJ_auto TT_ok rfl ?_
  refine RJ_C TT_ok (Con.sw 900 902 (toRecordS_m x.log hb.2.2.1)) rfl rfl (SVs.imp_refl _) (fun _ => rfl) rfl rfl rfl fun _ _ => ?_
  refine RJ_auto TT_ok rfl ?_
  refine RJ_C TT_ok (Con.sw 900 903 (toInt64S_m x.cleared hb.2.2.2.1.1)) rfl rfl (SVs.imp_refl _) (fun _ => rfl) rfl rfl rfl fun _ _ => ?_
  refine RJ_auto TT_ok rfl ?_
  refine T_ret TT_ok (()) [(2, some 71)] rfl rfl ?_ ?_ ?_
  · exact SVs.imp_refl _
  · exact ⟨⟨_, rfl, Ch.imp_refl _⟩, ⟨_, rfl, Ch.imp_refl _⟩, ⟨_, rfl, Ch.imp_refl _⟩, trivial⟩
  · trivial
theorem eqMachine_g (x : GMachine) (hb : D.bds bigN (cMachine x)) : Ans Tryz.prog 91 [] [vR (cMachine x), vR (cMachine x)] [] (vB true) := by
  refine con_enter Tryz.func91 rfl rfl rfl fun B0 r_ D_ w0 => ?_
  refine T_auto TT_ok rfl ?_
  refine T_condX rfl (fun e => by simp at e) (fun _ => ?_)
  refine T_auto TT_ok rfl ?_
  refine RJ_Q TT_ok (eqCopyS_q _ hb.2.1) rfl rfl rfl rfl rfl ?_
  refine T_cond rfl (fun e => by cases e) (fun _ => ?_)
  refine T_auto TT_ok rfl ?_
  refine RJ_Q TT_ok (eqRecordS_q _ hb.2.2.1) rfl rfl rfl rfl rfl ?_
  refine T_cond rfl (fun e => by cases e) (fun _ => ?_)
  refine T_auto TT_ok rfl ?_
  refine RJ_Q TT_ok (eqInt64S_q _ hb.2.2.2.1.1) rfl rfl rfl rfl rfl ?_
  refine T_cond rfl (fun e => by cases e) (fun _ => ?_)
  refine T_auto TT_ok rfl ?_
  exact T_ansB TT_ok [(4, none)] rfl rfl (rfl)
theorem szMachineS_q (xs : List GMachine) (hb : D.bd maxL (dL 4 cMachine GMachine.z xs)) (l : Int) (h1 : 0 ≤ l) (h2 : l ≤ 1048576) : Ans Tryz.prog 18 [] [vL 4 cMachine GMachine.z xs, vI l] [] (vI (szI l (wL wMachine xs))) := by
  have hx : xs.length ≤ maxL := hb.1
  unfold maxL at hx
  unfold wL
  refine con_enter Tryz.func18 rfl rfl rfl fun B0 r_ D_ w0 => ?_
  refine T_auto TT_ok rfl ?_
  refine T_condD rfl (fun e => ?_) (fun e => ?_)
  · refine T_auto TT_ok rfl ?_
    exact T_ansI TT_ok [(4, none)] rfl rfl ((szI_mono (szI_no e) (Nat.le_add_right _ _)).symm)
  refine T_auto TT_ok rfl ?_
  refine T_loopA (ι := Nat) (fun i => [(5, vI i), (1, vI (l - xs.length - (sumW wMachine (xs.take i) : Nat)))]) (fun _ => []) (fun i => i ≤ xs.length ∧ 0 ≤ l - xs.length - (sumW wMachine (xs.take i) : Nat)) (fun i => xs.length - i) 0 [] [] rfl rfl ⟨Nat.zero_le _, by simp [sumW]; omega⟩ ⟨⟨_, rfl, SV.imp_refl _⟩, ⟨_, rfl, SV.imp_of (vI_eq (by simp [sumW]))⟩, trivial⟩ (by repeat (first | exact trivial | refine And.intro ⟨_, rfl, Ch.imp_refl _⟩ ?_)) ?_
  intro i ⟨h3, h4⟩
  refine T_auto TT_ok rfl ?_
  refine T_condD rfl (fun e2 => ?_) (fun e2 => ?_)
  · have hi : i < xs.length := by omega
    have hs := sumW_take (w := wMachine) (z := GMachine.z) hi
    have hs2 := sumW_take_le (w := wMachine) xs (i + 1)
    refine T_auto TT_ok rfl ?_
    refine RJ_Q TT_ok (szMachine_g _ (hb.2 i hi) _ h4 (by omega)) rfl rfl rfl rfl rfl ?_
    refine T_condD rfl (fun e3 => ?_) (fun e3 => ?_)
    · have h5 := szI_neg.1 e3
      refine T_auto TT_ok rfl ?_
      exact T_ansI TT_ok [(4, none)] rfl rfl ((szI_mono (szI_neg.2 (by omega)) (Nat.le_refl _)).symm)
    · have h5 := szI_in e3
      refine T_auto TT_ok rfl ?_
      exact X_inv (i + 1) ⟨hi, by omega⟩ (by omega) ⟨⟨_, rfl, SV.imp_refl _⟩, ⟨_, rfl, SV.imp_of (vI_eq (by omega))⟩, (by repeat (first | exact trivial | refine And.intro ⟨_, rfl, SV.imp_refl _⟩ ?_))⟩ (by repeat (first | exact trivial | refine And.intro ⟨_, rfl, Ch.imp_refl _⟩ ?_))
  · have hi : i = xs.length := by omega
    subst hi
    rw [List.take_length] at h4 ⊢
    refine T_auto TT_ok rfl ?_
    exact T_ansI TT_ok [(4, none)] rfl rfl (by rw [szI_yes (by omega)]; omega)
theorem eqMachineS_q (xs : List GMachine) (hb : D.bd bigN (dL 4 cMachine GMachine.z xs)) : Ans Tryz.prog 31 [] [vL 4 cMachine GMachine.z xs, vL 4 cMachine GMachine.z xs] [] (vB true) := by
  have hl : xs.length ≤ 1048576 := hb.1
  refine con_enter Tryz.func31 rfl rfl rfl fun B0 r_ D_ w0 => ?_
  refine T_auto TT_ok rfl ?_
  refine T_condN rfl (fun e => absurd rfl e) (fun _ => ?_)
  refine T_auto TT_ok rfl ?_
  refine T_loopA (ι := Nat) (fun i => [(5, vI i)]) (fun _ => []) (fun i => i ≤ xs.length) (fun i => xs.length - i) 0 [] [] rfl rfl (Nat.zero_le _) (by repeat (first | exact trivial | refine And.intro ⟨_, rfl, SV.imp_refl _⟩ ?_)) (by repeat (first | exact trivial | refine And.intro ⟨_, rfl, Ch.imp_refl _⟩ ?_)) ?_
  intro i h1
  refine T_auto TT_ok rfl ?_
  refine T_condD rfl (fun e => ?_) (fun e => ?_)
  · have hi : i < xs.length := by omega
    refine T_auto TT_ok rfl ?_
    refine T_drawA TT_ok [] rfl rfl fun B0 H0 => ?_
    refine DJ_Q TT_ok (eqMachine_g _ (hb.2 i hi)) rfl rfl rfl rfl rfl rfl ?_
    refine DJ_endA TT_ok rfl ?_
    refine T_cond rfl (fun e => by cases e) (fun _ => ?_)
    refine T_auto TT_ok rfl ?_
    exact X_inv (i + 1) hi (by omega) (by repeat (first | exact trivial | refine And.intro ⟨_, rfl, SV.imp_refl _⟩ ?_)) (by repeat (first | exact trivial | refine And.intro ⟨_, rfl, Ch.imp_refl _⟩ ?_))
  · refine T_auto TT_ok rfl ?_
    exact T_ansB TT_ok [(4, none)] rfl rfl (rfl)
theorem toMachineS_m (xs : List GMachine) (hb : D.bd bigN (dL 4 cMachine GMachine.z xs)) : MkL Tryz.prog 25 [vL 4 cMachine GMachine.z xs] 4 cMachine GMachine.z xs := by
  have hl : xs.length ≤ 1048576 := hb.1
  refine con_enter Tryz.func25 rfl rfl rfl fun B0 r_ D_ w0 => ?_
  refine T_auto TT_ok rfl ?_
  refine RJ_make TT_ok 7 xs.length rfl rfl rfl rfl rfl rfl rfl ⟨by simp; omega, by unfold maxL; omega⟩ ?_
  refine RJ_auto TT_ok rfl ?_
  refine T_loopA (ι := Nat) (fun i => [(4, vI i)]) (fun i => [(7, .arr 4 xs.length fun k => cMachine (if k < i then xs.getD k GMachine.z else GMachine.z))]) (fun i => i ≤ xs.length) (fun i => xs.length - i) 0 [7] [] rfl rfl (Nat.zero_le _) (by repeat (first | exact trivial | refine And.intro ⟨_, rfl, SV.imp_refl _⟩ ?_)) ⟨⟨_, rfl, Ch.imp_own rfl fun k hk => by rw [if_neg (Nat.not_lt_zero _)]; exact OwnI.c (OwnI.n (OwnI.n (OwnI.n OwnI.e)))⟩, trivial⟩ ?_
  intro i h1
  refine T_auto TT_ok rfl ?_
  refine T_condD rfl (fun e => ?_) (fun e => ?_)
  · have hi : i < xs.length := by omega
    refine T_auto TT_ok rfl ?_
    refine RJ_C TT_ok (Con.sw 903 2903 (Con.sw 902 2902 (Con.sw 901 2901 (toMachine_g _ (hb.2 i hi))))) rfl rfl (SVs.imp_refl _) (fun _ => rfl) rfl rfl rfl fun _ _ => ?_
    refine RJ_auto TT_ok rfl ?_
    refine RJ_view (V_carve 7 i 7000 (l := [.v (.bool false), .s .o 2 0 fun i => cCopy (([] : List GCopy).getD i GCopy.z), .s .o 4 0 fun i => cRecord (([] : List GRecord).getD i GRecord.z), .s .o 1 0 fun i => cInt (([] : List Int).getD i 0)]) rfl (by rw [if_neg (by omega : ¬ ((i : Int)).toNat < i)]; rfl) rfl rfl rfl rfl ⟨by omega, by omega⟩) ?_
    refine RJ_view (V_pe 21 rfl rfl rfl) ?_
    refine RJ_auto TT_ok rfl ?_
    refine X_view (V_fold 7000 1 2901 rfl rfl rfl rfl rfl rfl rfl) ?_
    refine X_view (V_fold 7000 2 2902 rfl rfl rfl rfl rfl rfl rfl) ?_
    refine X_view (V_fold 7000 3 2903 rfl rfl rfl rfl rfl rfl rfl) ?_
    refine X_view (V_uncarve 7 7000 rfl rfl rfl rfl rfl rfl rfl) ?_
    exact X_inv (i + 1) hi (by omega) (by repeat (first | exact trivial | refine And.intro ⟨_, rfl, SV.imp_refl _⟩ ?_)) ⟨⟨_, rfl, Ch.imp_arr fun k hk => fill_step (fun x => cMachine x) rfl⟩, (by repeat (first | exact trivial | refine And.intro ⟨_, rfl, Ch.imp_refl _⟩ ?_))⟩
  · have hi : i = xs.length := by omega
    subst hi
    refine T_auto TT_ok rfl ?_
    refine T_view (V_sw 7 900) ?_
    refine T_ret TT_ok (()) [(2, none)] rfl rfl ?_ ?_ ?_
    · exact SVs.imp_refl _
    · exact ⟨⟨_, rfl, Ch.imp_arr fun k hk => by rw [if_pos hk]⟩, trivial⟩
    · trivial
theorem mMachine_eq (x : GMachine) : mMachine x = 0+1+((sumW mCopy x.copies))+((sumW mRecord x.log))+(x.cleared.length) := by unfold mMachine; omega
theorem markMachineS_w (xs : List GMachine) (hb : D.bd bigN (dL 4 cMachine GMachine.z xs)) (k0 : Int) (h1 : 0 ≤ k0) (h2 : k0 + (sumW mMachine xs : Nat) ≤ 1000000000000) : Con Tryz.prog 34 [900] [.a (.g 900), vI k0] [(900, arrC 4 cMachine GMachine.z xs)] (fun _ : Unit => True) (fun _ => [vI (k0 + (sumW mMachine xs : Nat))]) fun _ => [(900, arrC 4 cMachine GMachine.z (mkL mkMachine mMachine GMachine.z xs k0))] := by
  have hl : xs.length ≤ 1048576 := hb.1
  refine con_enter Tryz.func34 rfl rfl rfl fun B0 r_ D_ w0 => ?_
  refine T_auto TT_ok rfl ?_
  refine T_loopA (ι := Nat) (fun i => [(5, vI i), (1, vI (k0 + (sumW mMachine (xs.take i) : Nat)))]) (fun i => [(900, .arr 4 xs.length fun j => cMachine (if j < i then mkMachine (xs.getD j GMachine.z) (k0 + (sumW mMachine (xs.take j) : Nat)) else xs.getD j GMachine.z))]) (fun i => i ≤ xs.length) (fun i => xs.length - i) 0 [900] [] rfl rfl (Nat.zero_le _) ⟨⟨_, rfl, SV.imp_refl _⟩, ⟨_, rfl, SV.imp_of (vI_eq (by simp [sumW]))⟩, trivial⟩ ⟨⟨_, rfl, Ch.imp_arr fun k hk => by rw [if_neg (Nat.not_lt_zero _)]⟩, trivial⟩ ?_
  intro i h3
  refine T_auto TT_ok rfl ?_
  refine T_condD rfl (fun e => ?_) (fun e => ?_)
  · have hi : i < xs.length := by omega
    have hs := sumW_take (w := mMachine) (z := GMachine.z) hi
    have hs2 := sumW_take_le (w := mMachine) xs (i + 1)
    have hm := mMachine_eq (xs.getD i GMachine.z)
    have ht : sumW mMachine (xs.take ((i : Int)).toNat) = sumW mMachine (xs.take i) := rfl
    refine T_view (V_carve 900 i 7000 (l := [.v (.bool (xs.getD i GMachine.z).alive), .s .o 2 (xs.getD i GMachine.z).copies.length fun j => cCopy ((xs.getD i GMachine.z).copies.getD j GCopy.z), .s .o 4 (xs.getD i GMachine.z).log.length fun j => cRecord ((xs.getD i GMachine.z).log.getD j GRecord.z), .s .o 1 (xs.getD i GMachine.z).cleared.length fun j => cInt ((xs.getD i GMachine.z).cleared.getD j 0)]) rfl (by rw [if_neg (by omega : ¬ ((i : Int)).toNat < i)]; rfl) rfl rfl rfl rfl ⟨by omega, by omega⟩) ?_
    refine T_view (V_open 7000 1 7001 rfl rfl rfl rfl rfl rfl) ?_
    refine T_view (V_open 7000 2 7002 rfl rfl rfl rfl rfl rfl) ?_
    refine T_view (V_open 7000 3 7003 rfl rfl rfl rfl rfl rfl) ?_
    refine T_auto TT_ok rfl ?_
    refine RJ_view (V_pe 18 rfl rfl rfl) ?_
    refine RJ_auto TT_ok rfl ?_
    refine RJ_view (V_pe 24 rfl rfl rfl) ?_
    refine RJ_auto TT_ok rfl ?_
    refine RJ_C TT_ok (Con.sw 900 7001 (markCopyS_w (xs.getD i GMachine.z).copies (hb.2 i hi).2.1 _ (by omega) (by omega))) rfl rfl (SVs.imp_refl _) (fun _ => rfl) rfl rfl rfl fun _ _ => ?_
    refine RJ_auto TT_ok rfl ?_
    refine RJ_view (V_pe 31 rfl rfl rfl) ?_
    refine RJ_auto TT_ok rfl ?_
    refine RJ_C TT_ok (Con.sw 900 7002 (markRecordS_w (xs.getD i GMachine.z).log (hb.2 i hi).2.2.1 _ (by omega) (by omega))) rfl rfl (SVs.imp_refl _) (fun _ => rfl) rfl rfl rfl fun _ _ => ?_
    refine RJ_auto TT_ok rfl ?_
    refine RJ_view (V_pe 38 rfl rfl rfl) ?_
    refine RJ_auto TT_ok rfl ?_
    refine RJ_C TT_ok (Con.sw 900 7003 (markInt64S_w (xs.getD i GMachine.z).cleared (hb.2 i hi).2.2.2.1.1 _ (by omega) (by omega))) rfl rfl (SVs.imp_refl _) (fun _ => rfl) rfl rfl rfl fun _ _ => ?_
    refine RJ_auto TT_ok rfl ?_
    refine X_view (V_fold 7000 1 7001 rfl rfl rfl rfl rfl rfl rfl) ?_
    refine X_view (V_fold 7000 2 7002 rfl rfl rfl rfl rfl rfl rfl) ?_
    refine X_view (V_fold 7000 3 7003 rfl rfl rfl rfl rfl rfl rfl) ?_
    refine X_view (V_uncarve 900 7000 rfl rfl rfl rfl rfl rfl rfl) ?_
    exact X_inv (i + 1) hi (by omega) ⟨⟨_, rfl, SV.imp_refl _⟩, ⟨_, rfl, SV.imp_of (vI_eq (by omega))⟩, (by repeat (first | exact trivial | refine And.intro ⟨_, rfl, SV.imp_refl _⟩ ?_))⟩ ⟨⟨_, rfl, Ch.imp_arr fun k hk => fill_step2 (i := i) (k := k) (fun x => cMachine x) (fun j => mkMachine (xs.getD j GMachine.z) (k0 + (sumW mMachine (xs.take j) : Nat))) (o := fun j => xs.getD j GMachine.z) (by rfl)⟩, (by repeat (first | exact trivial | refine And.intro ⟨_, rfl, Ch.imp_refl _⟩ ?_))⟩
  · have hi : i = xs.length := by omega
    subst hi
    rw [List.take_length]
    refine T_auto TT_ok rfl ?_
    refine T_ret TT_ok (()) [(4, none)] rfl rfl ?_ ?_ ?_
    · exact SVs.imp_refl _
    · exact ⟨⟨_, rfl, Ch.imp_len (tab_length _ _).symm fun k hk => by rw [if_pos hk, mkL, tab_getD hk]⟩, trivial⟩
    · trivial
theorem heldMachineS_w (xs : List GMachine) (hb : D.bd bigN (dL 4 cMachine GMachine.z xs)) (k0 : Int) (h1 : 0 ≤ k0) (h2 : k0 + (sumW mMachine xs : Nat) ≤ 1000000000000) : Ans Tryz.prog 37 [] [vL 4 cMachine GMachine.z (mkL mkMachine mMachine GMachine.z xs k0), vI k0] [] (vI (k0 + (sumW mMachine xs : Nat))) := by
  have hl : xs.length ≤ 1048576 := hb.1
  refine Con.wkA (args := [.a (.s .r 4 xs.length fun j => cMachine (mkMachine (xs.getD j GMachine.z) (k0 + (sumW mMachine (xs.take j) : Nat)))), vI k0]) ?_ ⟨_, _, rfl, imp_untabS, SVs.imp_refl _⟩
  refine con_enter Tryz.func37 rfl rfl rfl fun B0 r_ D_ w0 => ?_
  refine T_auto TT_ok rfl ?_
  refine T_loopA (ι := Nat) (fun i => [(5, vI i), (1, vI (k0 + (sumW mMachine (xs.take i) : Nat)))]) (fun _ => []) (fun i => i ≤ xs.length) (fun i => xs.length - i) 0 [] [] rfl rfl (Nat.zero_le _) ⟨⟨_, rfl, SV.imp_refl _⟩, ⟨_, rfl, SV.imp_of (vI_eq (by simp [sumW]))⟩, trivial⟩ (by repeat (first | exact trivial | refine And.intro ⟨_, rfl, Ch.imp_refl _⟩ ?_)) ?_
  intro i h3
  refine T_auto TT_ok rfl ?_
  refine T_condD rfl (fun e => ?_) (fun e => ?_)
  · have hi : i < xs.length := by omega
    have hs := sumW_take (w := mMachine) (z := GMachine.z) hi
    have hs2 := sumW_take_le (w := mMachine) xs (i + 1)
    have hm := mMachine_eq (xs.getD i GMachine.z)
    have ht : sumW mMachine (xs.take ((i : Int)).toNat) = sumW mMachine (xs.take i) := rfl
    refine T_auto TT_ok rfl ?_
    refine T_condX rfl (fun e => absurd ((beq_self_eq_true _).symm.trans e) (by decide)) (fun _ => ?_)
    refine T_auto TT_ok rfl ?_
    refine RJ_Q TT_ok (heldCopyS_w (xs.getD i GMachine.z).copies (hb.2 i hi).2.1 _ (by (try simp only [Int.toNat_natCast] at *); omega) (by (try simp only [Int.toNat_natCast] at *); omega)) rfl rfl rfl rfl rfl ?_
    refine T_condD rfl (fun e => by (try simp only [Int.toNat_natCast] at *); omega) (fun _ => ?_)
    refine T_auto TT_ok rfl ?_
    refine RJ_Q TT_ok (heldRecordS_w (xs.getD i GMachine.z).log (hb.2 i hi).2.2.1 _ (by (try simp only [Int.toNat_natCast] at *); omega) (by (try simp only [Int.toNat_natCast] at *); omega)) rfl rfl rfl rfl rfl ?_
    refine T_condD rfl (fun e => by (try simp only [Int.toNat_natCast] at *); omega) (fun _ => ?_)
    refine T_auto TT_ok rfl ?_
    refine RJ_Q TT_ok (heldInt64S_w (xs.getD i GMachine.z).cleared (hb.2 i hi).2.2.2.1.1 _ (by (try simp only [Int.toNat_natCast] at *); omega) (by (try simp only [Int.toNat_natCast] at *); omega)) rfl rfl rfl rfl rfl ?_
    refine T_condD rfl (fun e => by (try simp only [Int.toNat_natCast] at *); omega) (fun _ => ?_)
    refine T_auto TT_ok rfl ?_
    exact X_inv (i + 1) hi (by omega) ⟨⟨_, rfl, SV.imp_refl _⟩, ⟨_, rfl, SV.imp_of (vI_eq (by (try simp only [Int.toNat_natCast] at *); omega))⟩, (by repeat (first | exact trivial | refine And.intro ⟨_, rfl, SV.imp_refl _⟩ ?_))⟩ (by repeat (first | exact trivial | refine And.intro ⟨_, rfl, Ch.imp_refl _⟩ ?_))
  · have hi : i = xs.length := by omega
    subst hi
    rw [List.take_length]
    refine T_auto TT_ok rfl ?_
    exact T_ansI TT_ok [(4, none)] rfl rfl (rfl)
abbrev agTxG (x : GTx) (k1 k2 : Nat) : SV := .ag [.v (.int .i64 x.id), .v (.int .i64 x.home), .v (.int .i64 x.phase), .v (.int .i64 x.done), .g k1, .g k2, .v (.int .i64 x.stamp)]
theorem szTx_g (x : GTx) (hb : D.bds maxL (cTx x)) (l : Int) (h1 : 0 ≤ l) (h2 : l ≤ 1048576) : Ans Tryz.prog 52 [] [vR (cTx x), vI l] [] (vI (szI l (wTx x))) := by
  unfold wTx
  refine con_enter Tryz.func52 rfl rfl rfl fun B0 r_ D_ w0 => ?_
  refine T_auto TT_ok rfl ?_
  refine RJ_Q TT_ok (szNoteS_q _ hb.2.2.2.2.1.1 _ h1 h2) rfl rfl rfl rfl rfl ?_
  refine T_condD rfl (fun e1 => ?_) (fun e1 => ?_)
  · refine T_auto TT_ok rfl ?_
    exact T_ansI TT_ok [(4, none)] rfl rfl (by exact (szI_mono e1 (by omega)).symm)
  have e1r := e1
  refine T_auto TT_ok rfl ?_
  refine RJ_Q TT_ok (szSetS_q _ hb.2.2.2.2.2.1.1 _ (szI_in e1).1 (Int.le_trans (szI_in e1).2.1 h2)) rfl rfl rfl rfl rfl ?_
  refine T_condD rfl (fun e2 => ?_) (fun e2 => ?_)
  · refine T_auto TT_ok rfl ?_
    exact T_ansI TT_ok [(4, none)] rfl rfl (by rw [szI_ge e1r] at e2; exact (szI_mono e2 (by omega)).symm)
  have e2r := e2
  rw [szI_ge e1r] at e2r
  refine T_auto TT_ok rfl ?_
  exact T_ansI TT_ok [(4, none)] rfl rfl (by rw [szI_ge e1r])
theorem toTx_g (x : GTx) (hb : D.bds bigN (cTx x)) : Con Tryz.prog 69 [] [vR (cTx x)] [] (fun _ : Unit => True) (fun _ => [agTxG x 901 902]) fun _ => [(901, arrC 5 cNote GNote.z x.reads), (902, arrC 5 cSet GSet.z x.sets)] := by
  refine con_enter Tryz.func69 rfl rfl rfl fun B0 r_ D_ w0 => ?_
  refine T_auto TT_ok rfl ?_
  refine RJ_C TT_ok (Con.sw 900 901 (toNoteS_m x.reads hb.2.2.2.2.1.1)) rfl rfl (SVs.imp_refl _) (fun _ => rfl) rfl rfl rfl fun _ _ => ?_
  refine RJ_auto TT_ok rfl ?_
  refine RJ_C TT_ok (Con.sw 900 902 (toSetS_m x.sets hb.2.2.2.2.2.1.1)) rfl rfl (SVs.imp_refl _) (fun _ => rfl) rfl rfl rfl fun _ _ => ?_
  refine RJ_auto TT_ok rfl ?_
  refine T_ret TT_ok (()) [(2, some 62)] rfl rfl ?_ ?_ ?_
  · exact SVs.imp_refl _
  · exact ⟨⟨_, rfl, Ch.imp_refl _⟩, ⟨_, rfl, Ch.imp_refl _⟩, trivial⟩
  · trivial
theorem eqTx_g (x : GTx) (hb : D.bds bigN (cTx x)) : Ans Tryz.prog 92 [] [vR (cTx x), vR (cTx x)] [] (vB true) := by
  refine con_enter Tryz.func92 rfl rfl rfl fun B0 r_ D_ w0 => ?_
  refine T_auto TT_ok rfl ?_
  refine T_condN rfl (fun e => absurd rfl e) (fun _ => ?_)
  refine T_auto TT_ok rfl ?_
  refine T_condN rfl (fun e => absurd rfl e) (fun _ => ?_)
  refine T_auto TT_ok rfl ?_
  refine T_condN rfl (fun e => absurd rfl e) (fun _ => ?_)
  refine T_auto TT_ok rfl ?_
  refine T_condN rfl (fun e => absurd rfl e) (fun _ => ?_)
  refine T_auto TT_ok rfl ?_
  refine RJ_Q TT_ok (eqNoteS_q _ hb.2.2.2.2.1.1) rfl rfl rfl rfl rfl ?_
  refine T_cond rfl (fun e => by cases e) (fun _ => ?_)
  refine T_auto TT_ok rfl ?_
  refine RJ_Q TT_ok (eqSetS_q _ hb.2.2.2.2.2.1.1) rfl rfl rfl rfl rfl ?_
  refine T_cond rfl (fun e => by cases e) (fun _ => ?_)
  refine T_auto TT_ok rfl ?_
  refine T_condN rfl (fun e => absurd rfl e) (fun _ => ?_)
  refine T_auto TT_ok rfl ?_
  exact T_ansB TT_ok [(4, none)] rfl rfl (rfl)
theorem szTxS_q (xs : List GTx) (hb : D.bd maxL (dL 7 cTx GTx.z xs)) (l : Int) (h1 : 0 ≤ l) (h2 : l ≤ 1048576) : Ans Tryz.prog 19 [] [vL 7 cTx GTx.z xs, vI l] [] (vI (szI l (wL wTx xs))) := by
  have hx : xs.length ≤ maxL := hb.1
  unfold maxL at hx
  unfold wL
  refine con_enter Tryz.func19 rfl rfl rfl fun B0 r_ D_ w0 => ?_
  refine T_auto TT_ok rfl ?_
  refine T_condD rfl (fun e => ?_) (fun e => ?_)
  · refine T_auto TT_ok rfl ?_
    exact T_ansI TT_ok [(4, none)] rfl rfl ((szI_mono (szI_no e) (Nat.le_add_right _ _)).symm)
  refine T_auto TT_ok rfl ?_
  refine T_loopA (ι := Nat) (fun i => [(5, vI i), (1, vI (l - xs.length - (sumW wTx (xs.take i) : Nat)))]) (fun _ => []) (fun i => i ≤ xs.length ∧ 0 ≤ l - xs.length - (sumW wTx (xs.take i) : Nat)) (fun i => xs.length - i) 0 [] [] rfl rfl ⟨Nat.zero_le _, by simp [sumW]; omega⟩ ⟨⟨_, rfl, SV.imp_refl _⟩, ⟨_, rfl, SV.imp_of (vI_eq (by simp [sumW]))⟩, trivial⟩ (by repeat (first | exact trivial | refine And.intro ⟨_, rfl, Ch.imp_refl _⟩ ?_)) ?_
  intro i ⟨h3, h4⟩
  refine T_auto TT_ok rfl ?_
  refine T_condD rfl (fun e2 => ?_) (fun e2 => ?_)
  · have hi : i < xs.length := by omega
    have hs := sumW_take (w := wTx) (z := GTx.z) hi
    have hs2 := sumW_take_le (w := wTx) xs (i + 1)
    refine T_auto TT_ok rfl ?_
    refine RJ_Q TT_ok (szTx_g _ (hb.2 i hi) _ h4 (by omega)) rfl rfl rfl rfl rfl ?_
    refine T_condD rfl (fun e3 => ?_) (fun e3 => ?_)
    · have h5 := szI_neg.1 e3
      refine T_auto TT_ok rfl ?_
      exact T_ansI TT_ok [(4, none)] rfl rfl ((szI_mono (szI_neg.2 (by omega)) (Nat.le_refl _)).symm)
    · have h5 := szI_in e3
      refine T_auto TT_ok rfl ?_
      exact X_inv (i + 1) ⟨hi, by omega⟩ (by omega) ⟨⟨_, rfl, SV.imp_refl _⟩, ⟨_, rfl, SV.imp_of (vI_eq (by omega))⟩, (by repeat (first | exact trivial | refine And.intro ⟨_, rfl, SV.imp_refl _⟩ ?_))⟩ (by repeat (first | exact trivial | refine And.intro ⟨_, rfl, Ch.imp_refl _⟩ ?_))
  · have hi : i = xs.length := by omega
    subst hi
    rw [List.take_length] at h4 ⊢
    refine T_auto TT_ok rfl ?_
    exact T_ansI TT_ok [(4, none)] rfl rfl (by rw [szI_yes (by omega)]; omega)
theorem eqTxS_q (xs : List GTx) (hb : D.bd bigN (dL 7 cTx GTx.z xs)) : Ans Tryz.prog 32 [] [vL 7 cTx GTx.z xs, vL 7 cTx GTx.z xs] [] (vB true) := by
  have hl : xs.length ≤ 1048576 := hb.1
  refine con_enter Tryz.func32 rfl rfl rfl fun B0 r_ D_ w0 => ?_
  refine T_auto TT_ok rfl ?_
  refine T_condN rfl (fun e => absurd rfl e) (fun _ => ?_)
  refine T_auto TT_ok rfl ?_
  refine T_loopA (ι := Nat) (fun i => [(5, vI i)]) (fun _ => []) (fun i => i ≤ xs.length) (fun i => xs.length - i) 0 [] [] rfl rfl (Nat.zero_le _) (by repeat (first | exact trivial | refine And.intro ⟨_, rfl, SV.imp_refl _⟩ ?_)) (by repeat (first | exact trivial | refine And.intro ⟨_, rfl, Ch.imp_refl _⟩ ?_)) ?_
  intro i h1
  refine T_auto TT_ok rfl ?_
  refine T_condD rfl (fun e => ?_) (fun e => ?_)
  · have hi : i < xs.length := by omega
    refine T_auto TT_ok rfl ?_
    refine T_drawA TT_ok [] rfl rfl fun B0 H0 => ?_
    refine DJ_Q TT_ok (eqTx_g _ (hb.2 i hi)) rfl rfl rfl rfl rfl rfl ?_
    refine DJ_endA TT_ok rfl ?_
    refine T_cond rfl (fun e => by cases e) (fun _ => ?_)
    refine T_auto TT_ok rfl ?_
    exact X_inv (i + 1) hi (by omega) (by repeat (first | exact trivial | refine And.intro ⟨_, rfl, SV.imp_refl _⟩ ?_)) (by repeat (first | exact trivial | refine And.intro ⟨_, rfl, Ch.imp_refl _⟩ ?_))
  · refine T_auto TT_ok rfl ?_
    exact T_ansB TT_ok [(4, none)] rfl rfl (rfl)
theorem toTxS_m (xs : List GTx) (hb : D.bd bigN (dL 7 cTx GTx.z xs)) : MkL Tryz.prog 26 [vL 7 cTx GTx.z xs] 7 cTx GTx.z xs := by
  have hl : xs.length ≤ 1048576 := hb.1
  refine con_enter Tryz.func26 rfl rfl rfl fun B0 r_ D_ w0 => ?_
  refine T_auto TT_ok rfl ?_
  refine RJ_make TT_ok 7 xs.length rfl rfl rfl rfl rfl rfl rfl ⟨by simp; omega, by unfold maxL; omega⟩ ?_
  refine RJ_auto TT_ok rfl ?_
  refine T_loopA (ι := Nat) (fun i => [(4, vI i)]) (fun i => [(7, .arr 7 xs.length fun k => cTx (if k < i then xs.getD k GTx.z else GTx.z))]) (fun i => i ≤ xs.length) (fun i => xs.length - i) 0 [7] [] rfl rfl (Nat.zero_le _) (by repeat (first | exact trivial | refine And.intro ⟨_, rfl, SV.imp_refl _⟩ ?_)) ⟨⟨_, rfl, Ch.imp_own rfl fun k hk => by rw [if_neg (Nat.not_lt_zero _)]; exact OwnI.c (OwnI.c (OwnI.c (OwnI.c (OwnI.n (OwnI.n (OwnI.c OwnI.e))))))⟩, trivial⟩ ?_
  intro i h1
  refine T_auto TT_ok rfl ?_
  refine T_condD rfl (fun e => ?_) (fun e => ?_)
  · have hi : i < xs.length := by omega
    refine T_auto TT_ok rfl ?_
    refine RJ_C TT_ok (Con.sw 902 2902 (Con.sw 901 2901 (toTx_g _ (hb.2 i hi)))) rfl rfl (SVs.imp_refl _) (fun _ => rfl) rfl rfl rfl fun _ _ => ?_
    refine RJ_auto TT_ok rfl ?_
    refine RJ_view (V_carve 7 i 7000 (l := [.v (.int .i64 0), .v (.int .i64 0), .v (.int .i64 0), .v (.int .i64 0), .s .o 5 0 fun i => cNote (([] : List GNote).getD i GNote.z), .s .o 5 0 fun i => cSet (([] : List GSet).getD i GSet.z), .v (.int .i64 0)]) rfl (by rw [if_neg (by omega : ¬ ((i : Int)).toNat < i)]; rfl) rfl rfl rfl rfl ⟨by omega, by omega⟩) ?_
    refine RJ_view (V_pe 21 rfl rfl rfl) ?_
    refine RJ_auto TT_ok rfl ?_
    refine X_view (V_fold 7000 4 2901 rfl rfl rfl rfl rfl rfl rfl) ?_
    refine X_view (V_fold 7000 5 2902 rfl rfl rfl rfl rfl rfl rfl) ?_
    refine X_view (V_uncarve 7 7000 rfl rfl rfl rfl rfl rfl rfl) ?_
    exact X_inv (i + 1) hi (by omega) (by repeat (first | exact trivial | refine And.intro ⟨_, rfl, SV.imp_refl _⟩ ?_)) ⟨⟨_, rfl, Ch.imp_arr fun k hk => fill_step (fun x => cTx x) rfl⟩, (by repeat (first | exact trivial | refine And.intro ⟨_, rfl, Ch.imp_refl _⟩ ?_))⟩
  · have hi : i = xs.length := by omega
    subst hi
    refine T_auto TT_ok rfl ?_
    refine T_view (V_sw 7 900) ?_
    refine T_ret TT_ok (()) [(2, none)] rfl rfl ?_ ?_ ?_
    · exact SVs.imp_refl _
    · exact ⟨⟨_, rfl, Ch.imp_arr fun k hk => by rw [if_pos hk]⟩, trivial⟩
    · trivial
theorem mTx_eq (x : GTx) : mTx x = 0+1+1+1+1+(5 * x.reads.length)+(5 * x.sets.length)+1 := by unfold mTx; omega
theorem markTxS_w (xs : List GTx) (hb : D.bd bigN (dL 7 cTx GTx.z xs)) (k0 : Int) (h1 : 0 ≤ k0) (h2 : k0 + (sumW mTx xs : Nat) ≤ 1000000000000) : Con Tryz.prog 35 [900] [.a (.g 900), vI k0] [(900, arrC 7 cTx GTx.z xs)] (fun _ : Unit => True) (fun _ => [vI (k0 + (sumW mTx xs : Nat))]) fun _ => [(900, arrC 7 cTx GTx.z (mkL mkTx mTx GTx.z xs k0))] := by
  have hl : xs.length ≤ 1048576 := hb.1
  refine con_enter Tryz.func35 rfl rfl rfl fun B0 r_ D_ w0 => ?_
  refine T_auto TT_ok rfl ?_
  refine T_loopA (ι := Nat) (fun i => [(5, vI i), (1, vI (k0 + (sumW mTx (xs.take i) : Nat)))]) (fun i => [(900, .arr 7 xs.length fun j => cTx (if j < i then mkTx (xs.getD j GTx.z) (k0 + (sumW mTx (xs.take j) : Nat)) else xs.getD j GTx.z))]) (fun i => i ≤ xs.length) (fun i => xs.length - i) 0 [900] [] rfl rfl (Nat.zero_le _) ⟨⟨_, rfl, SV.imp_refl _⟩, ⟨_, rfl, SV.imp_of (vI_eq (by simp [sumW]))⟩, trivial⟩ ⟨⟨_, rfl, Ch.imp_arr fun k hk => by rw [if_neg (Nat.not_lt_zero _)]⟩, trivial⟩ ?_
  intro i h3
  refine T_auto TT_ok rfl ?_
  refine T_condD rfl (fun e => ?_) (fun e => ?_)
  · have hi : i < xs.length := by omega
    have hs := sumW_take (w := mTx) (z := GTx.z) hi
    have hs2 := sumW_take_le (w := mTx) xs (i + 1)
    have hm := mTx_eq (xs.getD i GTx.z)
    have ht : sumW mTx (xs.take ((i : Int)).toNat) = sumW mTx (xs.take i) := rfl
    refine T_view (V_carve 900 i 7000 (l := [.v (.int .i64 (xs.getD i GTx.z).id), .v (.int .i64 (xs.getD i GTx.z).home), .v (.int .i64 (xs.getD i GTx.z).phase), .v (.int .i64 (xs.getD i GTx.z).done), .s .o 5 (xs.getD i GTx.z).reads.length fun j => cNote ((xs.getD i GTx.z).reads.getD j GNote.z), .s .o 5 (xs.getD i GTx.z).sets.length fun j => cSet ((xs.getD i GTx.z).sets.getD j GSet.z), .v (.int .i64 (xs.getD i GTx.z).stamp)]) rfl (by rw [if_neg (by omega : ¬ ((i : Int)).toNat < i)]; rfl) rfl rfl rfl rfl ⟨by omega, by omega⟩) ?_
    refine T_view (V_open 7000 4 7001 rfl rfl rfl rfl rfl rfl) ?_
    refine T_view (V_open 7000 5 7002 rfl rfl rfl rfl rfl rfl) ?_
    refine T_auto TT_ok rfl ?_
    refine RJ_view (V_pe 16 rfl rfl rfl) ?_
    refine RJ_auto TT_ok rfl ?_
    refine RJ_view (V_pe 23 rfl rfl rfl) ?_
    refine RJ_auto TT_ok rfl ?_
    refine RJ_view (V_pe 30 rfl rfl rfl) ?_
    refine RJ_auto TT_ok rfl ?_
    refine RJ_view (V_pe 37 rfl rfl rfl) ?_
    refine RJ_auto TT_ok rfl ?_
    refine RJ_view (V_pe 43 rfl rfl rfl) ?_
    refine RJ_auto TT_ok rfl ?_
    refine RJ_C TT_ok (Con.sw 900 7001 (markNoteS_w (xs.getD i GTx.z).reads (hb.2 i hi).2.2.2.2.1.1 _ (by omega) (by omega))) rfl rfl (SVs.imp_refl _) (fun _ => rfl) rfl rfl rfl fun _ _ => ?_
    refine RJ_auto TT_ok rfl ?_
    refine RJ_view (V_pe 50 rfl rfl rfl) ?_
    refine RJ_auto TT_ok rfl ?_
    refine RJ_C TT_ok (Con.sw 900 7002 (markSetS_w (xs.getD i GTx.z).sets (hb.2 i hi).2.2.2.2.2.1.1 _ (by omega) (by omega))) rfl rfl (SVs.imp_refl _) (fun _ => rfl) rfl rfl rfl fun _ _ => ?_
    refine RJ_auto TT_ok rfl ?_
    refine RJ_view (V_pe 58 rfl rfl rfl) ?_
    refine RJ_auto TT_ok rfl ?_
    refine X_view (V_fold 7000 4 7001 rfl rfl rfl rfl rfl rfl rfl) ?_
    refine X_view (V_fold 7000 5 7002 rfl rfl rfl rfl rfl rfl rfl) ?_
    refine X_view (V_uncarve 900 7000 rfl rfl rfl rfl rfl rfl rfl) ?_
    exact X_inv (i + 1) hi (by omega) ⟨⟨_, rfl, SV.imp_refl _⟩, ⟨_, rfl, SV.imp_of (vI_eq (by omega))⟩, (by repeat (first | exact trivial | refine And.intro ⟨_, rfl, SV.imp_refl _⟩ ?_))⟩ ⟨⟨_, rfl, Ch.imp_arr fun k hk => fill_step2 (i := i) (k := k) (fun x => cTx x) (fun j => mkTx (xs.getD j GTx.z) (k0 + (sumW mTx (xs.take j) : Nat))) (o := fun j => xs.getD j GTx.z) (by rfl)⟩, (by repeat (first | exact trivial | refine And.intro ⟨_, rfl, Ch.imp_refl _⟩ ?_))⟩
  · have hi : i = xs.length := by omega
    subst hi
    rw [List.take_length]
    refine T_auto TT_ok rfl ?_
    refine T_ret TT_ok (()) [(4, none)] rfl rfl ?_ ?_ ?_
    · exact SVs.imp_refl _
    · exact ⟨⟨_, rfl, Ch.imp_len (tab_length _ _).symm fun k hk => by rw [if_pos hk, mkL, tab_getD hk]⟩, trivial⟩
    · trivial
theorem heldTxS_w (xs : List GTx) (hb : D.bd bigN (dL 7 cTx GTx.z xs)) (k0 : Int) (h1 : 0 ≤ k0) (h2 : k0 + (sumW mTx xs : Nat) ≤ 1000000000000) : Ans Tryz.prog 38 [] [vL 7 cTx GTx.z (mkL mkTx mTx GTx.z xs k0), vI k0] [] (vI (k0 + (sumW mTx xs : Nat))) := by
  have hl : xs.length ≤ 1048576 := hb.1
  refine Con.wkA (args := [.a (.s .r 7 xs.length fun j => cTx (mkTx (xs.getD j GTx.z) (k0 + (sumW mTx (xs.take j) : Nat)))), vI k0]) ?_ ⟨_, _, rfl, imp_untabS, SVs.imp_refl _⟩
  refine con_enter Tryz.func38 rfl rfl rfl fun B0 r_ D_ w0 => ?_
  refine T_auto TT_ok rfl ?_
  refine T_loopA (ι := Nat) (fun i => [(5, vI i), (1, vI (k0 + (sumW mTx (xs.take i) : Nat)))]) (fun _ => []) (fun i => i ≤ xs.length) (fun i => xs.length - i) 0 [] [] rfl rfl (Nat.zero_le _) ⟨⟨_, rfl, SV.imp_refl _⟩, ⟨_, rfl, SV.imp_of (vI_eq (by simp [sumW]))⟩, trivial⟩ (by repeat (first | exact trivial | refine And.intro ⟨_, rfl, Ch.imp_refl _⟩ ?_)) ?_
  intro i h3
  refine T_auto TT_ok rfl ?_
  refine T_condD rfl (fun e => ?_) (fun e => ?_)
  · have hi : i < xs.length := by omega
    have hs := sumW_take (w := mTx) (z := GTx.z) hi
    have hs2 := sumW_take_le (w := mTx) xs (i + 1)
    have hm := mTx_eq (xs.getD i GTx.z)
    have ht : sumW mTx (xs.take ((i : Int)).toNat) = sumW mTx (xs.take i) := rfl
    refine T_auto TT_ok rfl ?_
    refine T_condN rfl (fun e => absurd rfl e) (fun _ => ?_)
    refine T_auto TT_ok rfl ?_
    refine T_condN rfl (fun e => absurd rfl e) (fun _ => ?_)
    refine T_auto TT_ok rfl ?_
    refine T_condN rfl (fun e => absurd rfl e) (fun _ => ?_)
    refine T_auto TT_ok rfl ?_
    refine T_condN rfl (fun e => absurd rfl e) (fun _ => ?_)
    refine T_auto TT_ok rfl ?_
    refine RJ_Q TT_ok (heldNoteS_w (xs.getD i GTx.z).reads (hb.2 i hi).2.2.2.2.1.1 _ (by (try simp only [Int.toNat_natCast] at *); omega) (by (try simp only [Int.toNat_natCast] at *); omega)) rfl rfl rfl rfl rfl ?_
    refine T_condD rfl (fun e => by (try simp only [Int.toNat_natCast] at *); omega) (fun _ => ?_)
    refine T_auto TT_ok rfl ?_
    refine RJ_Q TT_ok (heldSetS_w (xs.getD i GTx.z).sets (hb.2 i hi).2.2.2.2.2.1.1 _ (by (try simp only [Int.toNat_natCast] at *); omega) (by (try simp only [Int.toNat_natCast] at *); omega)) rfl rfl rfl rfl rfl ?_
    refine T_condD rfl (fun e => by (try simp only [Int.toNat_natCast] at *); omega) (fun _ => ?_)
    refine T_auto TT_ok rfl ?_
    refine T_condN rfl (fun e => absurd rfl e) (fun _ => ?_)
    refine T_auto TT_ok rfl ?_
    exact X_inv (i + 1) hi (by omega) ⟨⟨_, rfl, SV.imp_refl _⟩, ⟨_, rfl, SV.imp_of (vI_eq (by (try simp only [Int.toNat_natCast] at *); omega))⟩, (by repeat (first | exact trivial | refine And.intro ⟨_, rfl, SV.imp_refl _⟩ ?_))⟩ (by repeat (first | exact trivial | refine And.intro ⟨_, rfl, Ch.imp_refl _⟩ ?_))
  · have hi : i = xs.length := by omega
    subst hi
    rw [List.take_length]
    refine T_auto TT_ok rfl ?_
    exact T_ansI TT_ok [(4, none)] rfl rfl (rfl)
abbrev agClusterG (x : GCluster) (k1 k2 k3 : Nat) : SV := .ag [.v (.int .i64 x.config), .v (.int .i64 x.clock), .g k1, .g k2, .g k3, .v (.bool x.lost)]
theorem szCluster_g (x : GCluster) (hb : D.bds maxL (cCluster x)) (l : Int) (h1 : 0 ≤ l) (h2 : l ≤ 1048576) : Ans Tryz.prog 6 [] [vR (cCluster x), vI l] [] (vI (szI l (wCluster x))) := by
  unfold wCluster
  refine con_enter Tryz.func6 rfl rfl rfl fun B0 r_ D_ w0 => ?_
  refine T_auto TT_ok rfl ?_
  refine RJ_Q TT_ok (szPlaceS_q _ hb.2.2.1 _ h1 h2) rfl rfl rfl rfl rfl ?_
  refine T_condD rfl (fun e1 => ?_) (fun e1 => ?_)
  · refine T_auto TT_ok rfl ?_
    exact T_ansI TT_ok [(4, none)] rfl rfl (by exact (szI_mono e1 (by omega)).symm)
  have e1r := e1
  refine T_auto TT_ok rfl ?_
  refine RJ_Q TT_ok (szMachineS_q _ hb.2.2.2.1 _ (szI_in e1).1 (Int.le_trans (szI_in e1).2.1 h2)) rfl rfl rfl rfl rfl ?_
  refine T_condD rfl (fun e2 => ?_) (fun e2 => ?_)
  · refine T_auto TT_ok rfl ?_
    exact T_ansI TT_ok [(4, none)] rfl rfl (by rw [szI_ge e1r] at e2; exact (szI_mono e2 (by omega)).symm)
  have e2r := e2
  rw [szI_ge e1r] at e2r
  refine T_auto TT_ok rfl ?_
  refine RJ_Q TT_ok (szTxS_q _ hb.2.2.2.2.1 _ (szI_in e2).1 (Int.le_trans (szI_in e2).2.1 (Int.le_trans (szI_in e1).2.1 h2))) rfl rfl rfl rfl rfl ?_
  refine T_condD rfl (fun e3 => ?_) (fun e3 => ?_)
  · refine T_auto TT_ok rfl ?_
    exact T_ansI TT_ok [(4, none)] rfl rfl (by rw [szI_ge e1r, szI_ge e2r] at e3; exact (szI_mono e3 (by omega)).symm)
  have e3r := e3
  rw [szI_ge e1r, szI_ge e2r] at e3r
  refine T_auto TT_ok rfl ?_
  exact T_ansI TT_ok [(4, none)] rfl rfl (by rw [szI_ge e1r, szI_ge e2r])
theorem toCluster_g (x : GCluster) (hb : D.bds bigN (cCluster x)) : Con Tryz.prog 8 [] [vR (cCluster x)] [] (fun _ : Unit => True) (fun _ => [agClusterG x 901 902 903]) fun _ => [(901, arrC 1 cPlace GPlace.z x.places), (902, arrC 4 cMachine GMachine.z x.machines), (903, arrC 7 cTx GTx.z x.txs)] := by
  refine con_enter Tryz.func8 rfl rfl rfl fun B0 r_ D_ w0 => ?_
  refine T_auto TT_ok rfl ?_
  refine RJ_C TT_ok (Con.sw 900 901 (toPlaceS_m x.places hb.2.2.1)) rfl rfl (SVs.imp_refl _) (fun _ => rfl) rfl rfl rfl fun _ _ => ?_
  refine RJ_auto TT_ok rfl ?_
  refine RJ_C TT_ok (Con.sw 900 902 (toMachineS_m x.machines hb.2.2.2.1)) rfl rfl (SVs.imp_refl _) (fun _ => rfl) rfl rfl rfl fun _ _ => ?_
  refine RJ_auto TT_ok rfl ?_
  refine RJ_C TT_ok (Con.sw 900 903 (toTxS_m x.txs hb.2.2.2.2.1)) rfl rfl (SVs.imp_refl _) (fun _ => rfl) rfl rfl rfl fun _ _ => ?_
  refine RJ_auto TT_ok rfl ?_
  refine T_ret TT_ok (()) [(2, some 32)] rfl rfl ?_ ?_ ?_
  · exact SVs.imp_refl _
  · exact ⟨⟨_, rfl, Ch.imp_refl _⟩, ⟨_, rfl, Ch.imp_refl _⟩, ⟨_, rfl, Ch.imp_refl _⟩, trivial⟩
  · trivial
theorem eqCluster_g (x : GCluster) (hb : D.bds bigN (cCluster x)) : Ans Tryz.prog 10 [] [vR (cCluster x), vR (cCluster x)] [] (vB true) := by
  refine con_enter Tryz.func10 rfl rfl rfl fun B0 r_ D_ w0 => ?_
  refine T_auto TT_ok rfl ?_
  refine T_condN rfl (fun e => absurd rfl e) (fun _ => ?_)
  refine T_auto TT_ok rfl ?_
  refine T_condN rfl (fun e => absurd rfl e) (fun _ => ?_)
  refine T_auto TT_ok rfl ?_
  refine RJ_Q TT_ok (eqPlaceS_q _ hb.2.2.1) rfl rfl rfl rfl rfl ?_
  refine T_cond rfl (fun e => by cases e) (fun _ => ?_)
  refine T_auto TT_ok rfl ?_
  refine RJ_Q TT_ok (eqMachineS_q _ hb.2.2.2.1) rfl rfl rfl rfl rfl ?_
  refine T_cond rfl (fun e => by cases e) (fun _ => ?_)
  refine T_auto TT_ok rfl ?_
  refine RJ_Q TT_ok (eqTxS_q _ hb.2.2.2.2.1) rfl rfl rfl rfl rfl ?_
  refine T_cond rfl (fun e => by cases e) (fun _ => ?_)
  refine T_auto TT_ok rfl ?_
  refine T_condX rfl (fun e => by simp at e) (fun _ => ?_)
  refine T_auto TT_ok rfl ?_
  exact T_ansB TT_ok [(4, none)] rfl rfl (rfl)
theorem markCluster_g (x : GCluster) (hb : D.bds bigN (cCluster x)) (k0 : Int) (h1 : 0 ≤ k0) (h2 : k0 + (sumW mPlace x.places : Nat) + (sumW mMachine x.machines : Nat) + (sumW mTx x.txs : Nat) ≤ 1000000000000) : Con Tryz.prog 11 [901, 902, 903] [agClusterG x 901 902 903, vI k0] [(901, arrC 1 cPlace GPlace.z x.places), (902, arrC 4 cMachine GMachine.z x.machines), (903, arrC 7 cTx GTx.z x.txs)] (fun _ : Unit => True) (fun _ => [vI (k0 + (sumW mPlace x.places : Nat) + (sumW mMachine x.machines : Nat) + (sumW mTx x.txs : Nat))]) fun _ => [(901, arrC 1 cPlace GPlace.z (mkCluster x k0).places), (902, arrC 4 cMachine GMachine.z (mkCluster x k0).machines), (903, arrC 7 cTx GTx.z (mkCluster x k0).txs)] := by
  refine con_enter Tryz.func11 rfl rfl rfl fun B0 r_ D_ w0 => ?_
  refine T_auto TT_ok rfl ?_
  refine RJ_C TT_ok (Con.sw 900 901 (markPlaceS_w x.places hb.2.2.1 _ (by omega) (by omega))) rfl rfl (SVs.imp_refl _) (fun _ => rfl) rfl rfl rfl fun _ _ => ?_
  refine RJ_auto TT_ok rfl ?_
  refine RJ_C TT_ok (Con.sw 900 902 (markMachineS_w x.machines hb.2.2.2.1 _ (by omega) (by omega))) rfl rfl (SVs.imp_refl _) (fun _ => rfl) rfl rfl rfl fun _ _ => ?_
  refine RJ_auto TT_ok rfl ?_
  refine RJ_C TT_ok (Con.sw 900 903 (markTxS_w x.txs hb.2.2.2.2.1 _ (by omega) (by omega))) rfl rfl (SVs.imp_refl _) (fun _ => rfl) rfl rfl rfl fun _ _ => ?_
  refine RJ_auto TT_ok rfl ?_
  refine T_ret TT_ok (()) [(4, none)] rfl rfl ?_ ?_ ?_
  · exact SVs.imp_refl _
  · exact ⟨⟨_, rfl, Ch.imp_refl _⟩, ⟨_, rfl, Ch.imp_refl _⟩, ⟨_, rfl, Ch.imp_refl _⟩, trivial⟩
  · trivial
theorem heldCluster_g (x : GCluster) (hb : D.bds bigN (cCluster x)) (k0 : Int) (h1 : 0 ≤ k0) (h2 : k0 + (sumW mPlace x.places : Nat) + (sumW mMachine x.machines : Nat) + (sumW mTx x.txs : Nat) ≤ 1000000000000) : Ans Tryz.prog 12 [] [vR (cCluster (mkCluster x k0)), vI k0] [] (vI (k0 + (sumW mPlace x.places : Nat) + (sumW mMachine x.machines : Nat) + (sumW mTx x.txs : Nat))) := by
  refine con_enter Tryz.func12 rfl rfl rfl fun B0 r_ D_ w0 => ?_
  refine T_auto TT_ok rfl ?_
  refine RJ_Q TT_ok (heldPlaceS_w x.places hb.2.2.1 _ (by omega) (by omega)) rfl rfl rfl rfl rfl ?_
  refine T_condD rfl (fun e => by omega) (fun _ => ?_)
  refine T_auto TT_ok rfl ?_
  refine RJ_Q TT_ok (heldMachineS_w x.machines hb.2.2.2.1 _ (by omega) (by omega)) rfl rfl rfl rfl rfl ?_
  refine T_condD rfl (fun e => by omega) (fun _ => ?_)
  refine T_auto TT_ok rfl ?_
  refine RJ_Q TT_ok (heldTxS_w x.txs hb.2.2.2.2.1 _ (by omega) (by omega)) rfl rfl rfl rfl rfl ?_
  refine T_condD rfl (fun e => by omega) (fun _ => ?_)
  refine T_auto TT_ok rfl ?_
  exact T_ansI TT_ok [(4, none)] rfl rfl (rfl)
end Go.Proofs.YtcikaknfogpeeaaGreat
namespace Go.Proofs.YtcikaknfogpeeaaGreat
open Go Go.RowKit
set_option linter.unusedVariables false
set_option linter.unusedSimpArgs false
set_option maxRecDepth 4000
theorem small_of {x : GCluster} (e : ¬ szI 1048576 (wCluster x) < 0) : D.bds bigN (cCluster x) := bd_Cluster x (by have := (szI_in e).2.2.2; unfold bigN; omega)
end Go.Proofs.YtcikaknfogpeeaaGreat
namespace Go.Proofs.YtcikaknfogpeeaaGreat
open Go Go.RowKit
set_option linter.unusedVariables false
set_option linter.unusedSimpArgs false
def putM (N : Nat) (xo : Option SV) (d : Option Nat) (fr : Fr) (gf : GF) : Option (Fr × GF) := match xo, d with
  | some x, some t => match gdrop t gf with
    | some gf' => bif Nat.blt t N then some ((t, x) :: fr, gf') else none
    | none => none
  | none, none => some (fr, gf)
  | _, _ => none
section
variable {E : Env} {B : BE} {mu mu' : Mu} {w : World} {H : Nat → PH} {TT : List TI} {fr fr' : Fr} {gf gf' : GF} {a : Act} {all rest : List Oper} {Q : Exit → Act → World → Prop} {o : Oper} {J : Act → World → Prop} {G : AG}
theorem OJ_M (hT : TOk E.P TT) {xo : Option SV} {nw : Bool} {k : Nat} {c : Ch} {q : Ob} {es : List Prop} {gs : List GO} {fr0 : Fr} {gf0 : GF} (h : mst TT E.A.ks fr gf mu o.dst o.op = some (xo, nw, k, c, q)) (hs : splitO fr gf [] q [] [] = some (es, gs)) (hmu : mset k c mu = some mu') (hcut : cutF nw k fr gf = some (fr0, gf0))
    (hput : putM E.N xo o.dst fr0 gf0 = some (fr', gf')) (hG : hasK k G.ks = false) (kk : SJ G J E fr' gf' mu') (hg : o.guard = none := by exact rfl) (he : PAlls es := by repeat (first | exact trivial | refine And.intro rfl ?_)) (ho : GAlls gs := by first | exact trivial | ((simp only [GAlls, GO.p, InR]; (repeat' (first | exact trivial | refine And.intro ?_ ?_ | refine fun _ => ?_)) <;> first | omega | (simp only [decide_eq_true_eq, decide_eq_false_iff_not, Int.toNat_natCast] at *; omega) | (simp at *; omega)))) : OJ G E all Q J o fr gf mu := fun B a w H f m gg => by
  obtain ⟨nx, w', B', H', r1, r2, r3, r4, r5, r6⟩ := mst_ok hT f m h (splitO_ok f (fun _ _ hm => by cases hm) hs he ho) hmu hcut
  have gg' : G.ok B' H' := fun j hj => by
    have hjk : j ≠ k := fun e => by subst e; rw [hG] at hj; cases hj
    obtain ⟨e1, e2⟩ := r6 j hjk
    obtain ⟨e3, e4⟩ := gg j hj
    exact ⟨e1.trans e3, e2.trans e4⟩
  unfold putM at hput
  split at hput
  · rename_i x t hd
    split at hput
    · rename_i gf2 hgd
      cases hbt : Nat.blt t E.N with
      | false => rw [hbt] at hput; cases hput
      | true =>
        rw [hbt] at hput
        simp only [cond_true, Option.some.injEq, Prod.mk.injEq] at hput
        obtain ⟨rfl, rfl⟩ := hput
        obtain ⟨v, e1, e2⟩ := r2 _ rfl
        subst e1
        refine one_val (wanted_none hg) r1 ?_
        rw [hd]
        exact kk B' _ w' H' (Fits.put r5 (by simpa [Nat.blt_eq] using hbt) e2 hgd) r4 gg'
    · cases hput
  · rename_i hd
    simp only [Option.some.injEq, Prod.mk.injEq] at hput
    obtain ⟨rfl, rfl⟩ := hput
    have := r3 rfl
    subst this
    refine one_unit (wanted_none hg) r1 ?_
    rw [hd]
    exact kk B' _ w' H' r5 r4 gg'
  · cases hput
end
section
variable {E : Env} {mu : Mu} {TT : List TI} {fr : Fr} {gf gf' : GF} {all rest : List Oper} {Q : Exit → Act → World → Prop} {o : Oper}
end
section
variable {E : Env} {mu : Mu} {TT : List TI} {fr : Fr} {gf gf' : GF} {all : List Oper} {R : Exit → Act → World → Prop} {K : List KF} {G : AG}
end
section
variable {E : Env} {mu mu0 : Mu} {TT : List TI} {fr fr0 : Fr} {gf : GF} {all : List Oper} {R : Exit → Act → World → Prop} {K : List KF} {G : AG}
theorem T_cut (fr0 : Fr) (mu0 : Mu) {c : Code} (h : X E R (nxN K) fr0 mu0) (k : X E R (nxN K) fr0 mu0 → T E R c fr mu K) : T E R c fr mu K := k h
theorem X_go (hT : TOk E.P TT) {x : Nx} {js : JS} {es : List Prop} {gs : List GO} (ha : goNx (auto TT E.N E.A.ks 400) x fr mu [] [] = some (js, es, gs)) (k : js.ok E R) (he : PAlls es := by repeat (first | exact trivial | refine And.intro rfl ?_)) (ho : GAlls gs := by first | exact trivial | ((simp only [GAlls, GO.p, InR]; (repeat' (first | exact trivial | refine And.intro ?_ ?_ | refine fun _ => ?_)) <;> first | omega | (simp only [decide_eq_true_eq, decide_eq_false_iff_not, Int.toNat_natCast] at *; omega) | (simp at *; omega)))) : X E R x fr mu :=
  (goNx_ok (auto_ok hT 400) ha ⟨he, ho⟩).2 k
theorem DJ_endK {n : Nat} {tk : List Nat} (key : X E R (nxN K) fr0 mu0) (hf : WkFr E.P fr fr0) (hm : WkMu mu mu0) (hr : (Region.ready .any all.toArray (mk all.toArray.size tk)).isEmpty = true := by kernel_rfl) : DJ G E all (KQ E.P R K) n tk fr gf mu :=
  DJ_end hr fun B a w H f m => key B a w H (f.wk hf) (m.wk hm)
end
section
variable {E : Env} {B : BE} {mu mu' : Mu} {w : World} {H : Nat → PH} {TT : List TI} {fr fr' : Fr} {gf gf' : GF} {a : Act} {all rest : List Oper} {Q : Exit → Act → World → Prop} {o : Oper} {J : Act → World → Prop} {G : AG} {R : Exit → Act → World → Prop} {K : List KF}
theorem T_drawL (hT : TOk E.P TT) (ex : List Nat) (is : List Nat) {id : Nat} {l : List Oper} {ks is' tk' : List Nat} {es : List Prop} {gs : List GO} (hks : keysX ex mu = ks) (ha : drun TT E.N l (muR ks mu) is fr [] [] [] [] = some (is', fr', gf', tk', es, gs))
    (k : ∀ B0 H0, DJ ⟨ks, B0, H0⟩ E l (KQ E.P R K) is'.length tk' fr' gf' mu) (hlen : is.length = l.length := by exact rfl) (hR : PQ R := by exact pq_body _ _) (hm : E.P.follows .mixedOrders = true := by kernel_rfl) (hb : tookB l.toArray is is' [] = true := by kernel_rfl)
    (he : PAlls es := by repeat (first | exact trivial | refine And.intro rfl ?_)) (ho : GAlls gs := by first | exact trivial | ((simp only [GAlls, GO.p, InR]; (repeat' (first | exact trivial | refine And.intro ?_ ?_ | refine fun _ => ?_)) <;> first | omega | (simp only [decide_eq_true_eq, decide_eq_false_iff_not, Int.toNat_natCast] at *; omega) | (simp at *; omega)))) : T E R (.region id l.toArray true) fr mu K :=
  T_draw ex l.length hm (by simp) hks fun B0 H0 => by
    have := (drun_took (G := ⟨ks, B0, H0⟩) (K := K) hT hR _ _ _ _ _ _ ha).2 hb ⟨he, ho⟩
    rw [← hlen]
    exact this.2 (k B0 H0)
theorem DJ_onL (hT : TOk E.P TT) (is : List Nat) {tk is' tk' : List Nat} {es : List Prop} {gs : List GO} (ha : drun TT E.N all (muR G.ks mu) is fr gf tk [] [] = some (is', fr', gf', tk', es, gs)) (k : DJ G E all (KQ E.P R K) is'.length tk' fr' gf' mu) (hR : PQ R := by exact pq_body _ _) (hb : tookB all.toArray is is' tk = true := by kernel_rfl)
    (he : PAlls es := by repeat (first | exact trivial | refine And.intro rfl ?_)) (ho : GAlls gs := by first | exact trivial | ((simp only [GAlls, GO.p, InR]; (repeat' (first | exact trivial | refine And.intro ?_ ?_ | refine fun _ => ?_)) <;> first | omega | (simp only [decide_eq_true_eq, decide_eq_false_iff_not, Int.toNat_natCast] at *; omega) | (simp at *; omega)))) : DJ G E all (KQ E.P R K) is.length tk fr gf mu :=
  ((drun_took (G := G) (K := K) hT hR _ _ _ _ _ _ ha).2 hb ⟨he, ho⟩).2 k
theorem DJ_Qi (i : Nat) {n : Nat} {tk : List Nat} {f : Nat} {ks : List Nat} {args : List SV} {mu1 : Mu} {res : SV} (C : Ans E.P f ks args mu1 res) {svs args' : List SV} {g : Option (Nat × Nat × Bool)} {t : Nat} {q : Ob} {es : List Prop} {gs : List GO} (hi : nth all i = some o)
    (hc : callC E.N all fr gf o = some (f, svs, g, t, gf')) (hw : wkSL (muR G.ks mu) [] ks svs = some (args', q)) (hae : SVs.imp E.P args' args) (hs : splitO fr gf (match g with | none => [] | some (_, d, b) => acts 6 gf d b) q [] [] = some (es, gs))
    (k : DJ G E all (KQ E.P R K) n (i :: tk) (frQ fr g t res) (gfQ gf' g t res) mu)
    {x : Value} (hx : exV res = some x := by exact rfl) (hR : PQ R := by exact pq_body _ _) (hb : takeB all.toArray tk i = true := by kernel_rfl)
    (hko : keysO mu1 = [] := by exact rfl) (hres : res.inK ks = true := by exact rfl) (hin : WkIn (muR G.ks mu) mu1 := by repeat (first | exact trivial | refine And.intro ⟨_, rfl, ro_arr⟩ ?_ | refine And.intro ⟨_, rfl, ro_ro⟩ ?_ | refine And.intro ⟨_, rfl, ro_row⟩ ?_ | refine And.intro ⟨_, rfl, Ch.imp_refl _⟩ ?_)) (hen : Enters E.P f := by exact enters_B (by kernel_rfl)) (he : PAlls es := by repeat (first | exact trivial | refine And.intro rfl ?_)) (ho : GAlls gs := by first | exact trivial | ((simp only [GAlls, GO.p, InR]; (repeat' (first | exact trivial | refine And.intro ?_ ?_ | refine fun _ => ?_)) <;> first | omega | (simp only [decide_eq_true_eq, decide_eq_false_iff_not, Int.toNat_natCast] at *; omega) | (simp at *; omega)))) : DJ G E all (KQ E.P R K) (n + 1) tk fr gf mu :=
  DJ_q hR i C hx hi hb hc rfl hen hko hres hw hae hs he ho hin k
end
section
variable {E : Env} {mu : Mu} {fr : Fr} {gf : GF} {all : List Oper} {G : AG}
theorem DJ_sw2 (i : Nat) {n : Nat} {tk : List Nat} {o : Oper} {Q : Exit → Act → World → Prop} (hi : nth all i = some o) (hB : oneB all.toArray tk i = true) (hC : cmpB all.toArray i = true) (h : OJ AG.nil E all Q (fun a' w' => ∃ G' : AG, Sr G' E.r w' ∧ Lw E.P all.toArray Q (Sr G' E.r) n (mk all.toArray.size (i :: tk)) a' w') o fr gf mu) : DJ G E all Q (n + 1) tk fr gf mu := fun B a w H f m gg w2 hb => by
  have hr := oneB_spec hB
  have hi' : all.toArray[i]? = some o := by rw [nth_eq] at hi; simpa using hi
  refine ⟨fun h0 => (by rw [hr] at h0; cases h0), fun j hj => ?_⟩
  rw [hr] at hj
  obtain rfl := List.mem_singleton.1 hj
  have h1 := One.mono (fun a' w' (h : ∃ G' : AG, Sr G' E.r w' ∧ Lw E.P all.toArray Q (Sr G' E.r) n (mk all.toArray.size (j :: tk)) a' w') => (let ⟨_, h1, h2⟩ := h; ⟨_, .inr hC, h1, h2⟩ : ∃ S', (S' = Sr G E.r ∨ cmpB all.toArray j = true) ∧ S' w' ∧ Lw E.P all.toArray Q S' n (mk all.toArray.size (j :: tk)) a' w')) (h B a w2 H f (m.below hb) (AG.nil_ok B H))
  unfold One at h1
  unfold wpOp
  rw [hi', mk_set]
  exact h1
theorem SJ_sw (ks' : List Nat) {n : Nat} {tk : List Nat} {Q : Exit → Act → World → Prop} (h : ∀ B0 H0, DJ ⟨ks', B0, H0⟩ E all Q n tk fr gf mu) : SJ AG.nil (fun a' w' => ∃ G' : AG, Sr G' E.r w' ∧ Lw E.P all.toArray Q (Sr G' E.r) n (mk all.toArray.size tk) a' w') E fr gf mu := fun B a w H f m _ =>
  ⟨⟨ks', B, H⟩, m.sr fun _ _ => ⟨rfl, rfl⟩, h B H B a w H f m fun _ _ => ⟨rfl, rfl⟩⟩
end
end Go.Proofs.YtcikaknfogpeeaaGreat
namespace Go.Proofs.YtcikaknfogpeeaaGreat
open Go Go.RowKit
set_option linter.unusedVariables false
set_option linter.unusedSimpArgs false
set_option maxRecDepth 4000
abbrev machAt (c : GCluster) (r k : Nat) : GMachine := c.machines.getD (mAt c r k).toNat GMachine.z
def cellsOf (m : GMachine) (r : Int) : List GCell := if hasB m r = true then (m.copies.getD (idxI (atB r) m.copies).toNat GCopy.z).cells else []
theorem hasB_idx {m : GMachine} {r : Int} (h : hasB m r = true) : 0 ≤ idxI (atB r) m.copies ∧ idxI (atB r) m.copies < m.copies.length := by
  rcases idxI_cases (atB r) GCopy.z m.copies with ⟨h1, h2⟩ | ⟨i, h1, h2, h3, h4⟩
  · rw [hasB, any_no h2] at h; cases h
  · omega
theorem cellsOf_has {m : GMachine} {r : Int} (h : hasB m r = true) : cellsOf m r = (m.copies.getD (idxI (atB r) m.copies).toNat GCopy.z).cells := by rw [cellsOf, if_pos h]
theorem ClusOk.at {c : GCluster} (h : ClusOk c) {r k : Nat} (hr : r < c.places.length) (hk : k < (c.places.getD r GPlace.z).machines.length) : (0 ≤ mAt c r k ∧ mAt c r k < c.machines.length) ∧ ((machAt c r k).alive = true → hasB (machAt c r k) r = true) := by
  have h1 := pl_nonneg (h.2.1.2 r hr) hk
  have h2 := h.2.2.2.1 r hr k hk
  unfold badAt at h2
  cases c1 : decide (mAt c r k ≥ (c.machines.length : Int)) with
  | true => rw [c1] at h2; cases h2
  | false =>
    rw [c1] at h2
    have := of_decide_eq_false c1
    refine ⟨⟨h1.1, by omega⟩, fun ha => ?_⟩
    change (bif (machAt c r k).alive then !hasB (machAt c r k) r else false) = false at h2
    rw [ha] at h2
    simpa using h2
theorem ClusOk.pl {c : GCluster} (h : ClusOk c) {r : Nat} (hr : r < c.places.length) : 1 ≤ (c.places.getD r GPlace.z).machines.length ∧ (c.places.getD r GPlace.z).machines.length ≤ 3 := (h.2.1.2 r hr).1
theorem ClusOk.mach {c : GCluster} (h : ClusOk c) {r k : Nat} (hr : r < c.places.length) (hk : k < (c.places.getD r GPlace.z).machines.length) : MachOk (machAt c r k) := h.2.2.1 _ (by have := (h.at hr hk).1; omega)
theorem cellsOf_len {m : GMachine} (h : MachOk m) {r : Int} (hh : hasB m r = true) : (cellsOf m r).length = 6 ∧ cellsB (cellsOf m r) = true := by
  have h1 := hasB_idx hh
  rw [cellsOf_has hh]
  have h2 := cells6 h (i := (idxI (atB r) m.copies).toNat) (by omega)
  exact ⟨cellsB_len h2, h2⟩
def downB (c : GCluster) (r : Nat) : Bool := anyN (c.places.getD r GPlace.z).machines.length fun k => !(machAt c r k).alive
theorem l11Down_q (c : GCluster) (b1 : c.places.length ≤ 1048576) (hok : ClusOk c) (r0 : Nat) (hr : r0 < c.places.length) : Ans Tryz.prog 111 [] [vR (cCluster c), vI r0] [] (vB (downB c r0)) := by
  have hp := hok.pl hr
  refine con_enter Tryz.func111 rfl rfl rfl fun B0 r_ D_ w0 => ?_
  refine T_auto TT_ok rfl ?_
  refine T_loopA (ι := Nat) (fun k => [(6, vI k)]) (fun _ => []) (fun k => k ≤ (c.places.getD r0 GPlace.z).machines.length ∧ ∀ j, j < k → (!(machAt c r0 j).alive) = false) (fun k => (c.places.getD r0 GPlace.z).machines.length - k) 0 [] [] rfl rfl ⟨Nat.zero_le _, fun j hj => absurd hj (Nat.not_lt_zero _)⟩ (by repeat (first | exact trivial | refine And.intro ⟨_, rfl, SV.imp_refl _⟩ ?_)) (by repeat (first | exact trivial | refine And.intro ⟨_, rfl, Ch.imp_refl _⟩ ?_)) ?_
  intro k ⟨h1, h2⟩
  refine T_auto TT_ok rfl ?_
  refine T_condD rfl (fun e => ?_) (fun e => ?_)
  · have hk : k < (c.places.getD r0 GPlace.z).machines.length := by simp at e ⊢; omega
    have hm := (hok.at hr hk).1
    refine T_auto TT_ok rfl ?_
    refine T_drawA TT_ok [] rfl rfl fun B0 H0 => ?_
    refine DJ_endA TT_ok rfl ?_
    refine T_cond rfl (fun e2 => ?_) (fun e2 => ?_)
    · refine T_auto TT_ok rfl ?_
      exact T_ansB TT_ok [(4, none)] rfl rfl ((anyN_at (p := fun k => !(machAt c r0 k).alive) hk e2).symm)
    · refine T_auto TT_ok rfl ?_
      exact X_inv (k + 1) ⟨hk, before_succ h2 e2⟩ (by omega) (by repeat (first | exact trivial | refine And.intro ⟨_, rfl, SV.imp_refl _⟩ ?_)) (by repeat (first | exact trivial | refine And.intro ⟨_, rfl, Ch.imp_refl _⟩ ?_))
  · refine T_auto TT_ok rfl ?_
    exact T_ansB TT_ok [(4, none)] rfl rfl ((anyN_no fun j hj => h2 j (by simp at e hj; omega)).symm)
end Go.Proofs.YtcikaknfogpeeaaGreat
namespace Go.Proofs.YtcikaknfogpeeaaGreat
open Go Go.RowKit
set_option linter.unusedVariables false
set_option linter.unusedSimpArgs false
set_option maxRecDepth 4000
def atLog (tx r kind : Int) (x : GRecord) : Bool := bif (bif x.tx == tx then x.region == r else false) then x.kind == kind else false
def logI (m : GMachine) (tx r kind : Int) : Int := idxI (atLog tx r kind) m.log
theorem l6Logged_q (m : GMachine) (hl : m.log.length ≤ 1048576) (tx r0 kind : Int) : Ans Tryz.prog 65 [] [vR (cMachine m), vI tx, vI r0, vI kind] [] (vI (logI m tx r0 kind)) := by
  refine con_enter Tryz.func65 rfl rfl rfl fun B0 r_ D_ w0 => ?_
  refine T_auto TT_ok rfl ?_
  refine T_loopA (ι := Nat) (fun i => [(9, vI i)]) (fun _ => []) (fun i => i ≤ m.log.length ∧ ∀ j, j < i → atLog tx r0 kind (m.log.getD j GRecord.z) = false) (fun i => m.log.length - i) 0 [] [] rfl rfl ⟨Nat.zero_le _, fun j hj => absurd hj (Nat.not_lt_zero _)⟩ (by repeat (first | exact trivial | refine And.intro ⟨_, rfl, SV.imp_refl _⟩ ?_)) (by repeat (first | exact trivial | refine And.intro ⟨_, rfl, Ch.imp_refl _⟩ ?_)) ?_
  intro i ⟨h1, h2⟩
  refine T_auto TT_ok rfl ?_
  refine T_condD rfl (fun e => ?_) (fun e => ?_)
  · have hi : i < m.log.length := by omega
    refine T_auto TT_ok rfl ?_
    refine T_cond rfl (fun e2 => ?_) (fun e2 => ?_)
    · refine T_auto TT_ok rfl ?_
      exact T_ansI TT_ok [(8, none)] rfl rfl ((idxI_at (p := atLog tx r0 kind) hi h2 e2).symm)
    · refine T_auto TT_ok rfl ?_
      exact X_inv (i + 1) ⟨hi, before_succ h2 e2⟩ (by omega) (by repeat (first | exact trivial | refine And.intro ⟨_, rfl, SV.imp_refl _⟩ ?_)) (by repeat (first | exact trivial | refine And.intro ⟨_, rfl, Ch.imp_refl _⟩ ?_))
  · refine T_auto TT_ok rfl ?_
    exact T_ansI TT_ok [(8, none)] rfl rfl ((idxI_no fun j hj => h2 j (by omega)).symm)
theorem logged1_q (x : GRecord) (tx r0 kind : Int) : Ans Tryz.prog 224 [] [vR (cRecord x), vP [dI tx], vP [dI r0], vP [dI kind]] [] (vB (atLog tx r0 kind x)) := by
  refine con_enter Tryz.func224 rfl rfl rfl fun B0 r_ D_ w0 => ?_
  refine T_auto TT_ok rfl ?_
  exact T_ansB TT_ok [(5, none)] rfl rfl (rfl)
theorem logged_q (m : GMachine) (hl : m.log.length ≤ 1048576) (tx r0 kind : Int) : Ans Tryz.prog 167 [] [vP (cMachine m), vI tx, vI r0, vI kind] [] (vI (logI m tx r0 kind)) := by
  refine con_enter Tryz.func167 rfl rfl rfl fun B0 r_ D_ w0 => ?_
  refine T_auto TT_ok rfl ?_
  refine RJ_QF TT_ok (indexFuncRecord_p m.log hl (fun _ => True) (fun _ _ => trivial) (atLog tx r0 kind)) rfl rfl (SVs.cons (SV.imp_refl _) (SVs.cons (imp_fb (enters_B (by kernel_rfl)) rfl fun args x ⟨n, _, e1, e2⟩ => by subst e1; subst e2; exact logged1_q n _ _ _) rfl)) rfl rfl ?_
  exact T_ansI TT_ok [(8, none)] rfl rfl (rfl)
def maxI (a b : Int) : Int := if a > b then a else b
theorem maxI_impl (a b : Int) : (if b > a then b else a) = maxI a b := by unfold maxI; split <;> split <;> omega
theorem l1Max_q (a b : Int) : Ans Tryz.prog 184 [] [vI a, vI b] [] (vI (maxI a b)) := by
  refine con_enter Tryz.func184 rfl rfl rfl fun B0 r_ D_ w0 => ?_
  refine T_auto TT_ok rfl ?_
  refine T_condD rfl (fun e => ?_) (fun e => ?_)
  · refine T_auto TT_ok rfl ?_
    exact T_ansI TT_ok [(4, none)] rfl rfl ((if_pos e).symm)
  · refine T_auto TT_ok rfl ?_
    exact T_ansI TT_ok [(4, none)] rfl rfl ((if_neg e).symm)
def stepV (c : GCluster) (id r : Int) (k : Nat) (best : Int) : Int :=
  let m := machAt c r.toNat k
  if m.alive = false then best else if (bif decide (logI m id r 3 ≥ 0) then true else decide (id ∈ m.cleared)) = true then maxI best 4 else if decide (logI m id r 2 ≥ 0) = true then maxI best 3 else if (bif ((k : Int) == 0) then decide (logI m id r 1 ≥ 0) else false) = true then maxI best 2 else best
def voteN (c : GCluster) (id r : Int) : Nat → Int
  | 0 => 1
  | k + 1 => stepV c id r k (voteN c id r k)
theorem l11Vote_q (c : GCluster) (hb : D.bds bigN (cCluster c)) (hok : ClusOk c) (id r0 : Int) (hr : 0 ≤ r0 ∧ r0 < c.places.length) : Ans Tryz.prog 113 [] [vR (cCluster c), vI id, vI r0] [] (vI (voteN c id r0 (c.places.getD r0.toNat GPlace.z).machines.length)) := by
  have hp := hok.pl (r := r0.toNat) (by omega)
  refine con_enter Tryz.func113 rfl rfl rfl fun B0 r_ D_ w0 => ?_
  refine T_auto TT_ok rfl ?_
  refine T_loopA (ι := Nat) (fun k => [(9, vI k), (8, vI (voteN c id r0 k))]) (fun _ => []) (fun k => k ≤ (c.places.getD r0.toNat GPlace.z).machines.length) (fun k => (c.places.getD r0.toNat GPlace.z).machines.length - k) 0 [] [] rfl rfl (Nat.zero_le _) (by repeat (first | exact trivial | refine And.intro ⟨_, rfl, SV.imp_refl _⟩ ?_)) (by repeat (first | exact trivial | refine And.intro ⟨_, rfl, Ch.imp_refl _⟩ ?_)) ?_
  intro k h1
  refine T_auto TT_ok rfl ?_
  refine T_condD rfl (fun e => ?_) (fun e => ?_)
  · have hk : k < (c.places.getD r0.toNat GPlace.z).machines.length := by simp at e ⊢; omega
    have hm := (hok.at (r := r0.toNat) (by omega) hk).1
    have bm := bdM_any hb (mAt c r0.toNat k).toNat
    have bl : (machAt c r0.toNat k).log.length ≤ 1048576 := bm.2.2.1.1
    have bc : (machAt c r0.toNat k).cleared.length ≤ 1048576 := bm.2.2.2.1.1
    refine T_auto TT_ok rfl ?_
    refine T_drawA TT_ok [] rfl rfl fun B0 H0 => ?_
    refine DJ_one 8 rfl (by kernel_rfl) (OJ_M TT_ok rfl rfl rfl rfl rfl rfl (SJ_dj ?_))
    refine DJ_one 9 rfl (by kernel_rfl) (OJ_M TT_ok rfl rfl rfl rfl rfl rfl (SJ_dj ?_))
    refine DJ_endA TT_ok rfl ?_
    refine T_condX rfl (fun e1 => ?_) (fun e1 => ?_)
    · refine T_auto TT_ok rfl ?_
      exact X_inv (k + 1) hk (by omega) ⟨⟨_, rfl, SV.imp_refl _⟩, ⟨_, rfl, SV.imp_of (vI_eq (show _ = stepV _ _ _ _ _ from (if_pos e1).symm))⟩, (by repeat (first | exact trivial | refine And.intro ⟨_, rfl, SV.imp_refl _⟩ ?_))⟩ (by repeat (first | exact trivial | refine And.intro ⟨_, rfl, Ch.imp_refl _⟩ ?_))
    have e1' : ¬ (machAt c r0.toNat k).alive = false := by rw [show (machAt c r0.toNat k).alive = true from e1]; simp
    refine T_auto TT_ok rfl ?_
    refine RJ_Q TT_ok (l6Logged_q _ bl _ _ _) rfl rfl rfl rfl rfl ?_
    refine RJ_Q TT_ok (l3Has_q _ bc _) rfl rfl rfl rfl rfl ?_
    refine T_cond rfl (fun e2 => ?_) (fun e2 => ?_)
    · refine T_auto TT_ok rfl ?_
      refine RJ_Q TT_ok (l1Max_q _ _) rfl rfl rfl rfl rfl ?_
      exact X_inv (k + 1) hk (by omega) ⟨⟨_, rfl, SV.imp_refl _⟩, ⟨_, rfl, SV.imp_of (vI_eq (show _ = stepV _ _ _ _ _ from ((if_neg e1').trans (if_pos e2)).symm))⟩, (by repeat (first | exact trivial | refine And.intro ⟨_, rfl, SV.imp_refl _⟩ ?_))⟩ (by repeat (first | exact trivial | refine And.intro ⟨_, rfl, Ch.imp_refl _⟩ ?_))
    have e2' := Bool.eq_false_iff.1 e2
    refine T_auto TT_ok rfl ?_
    refine RJ_Q TT_ok (l6Logged_q _ bl _ _ _) rfl rfl rfl rfl rfl ?_
    refine T_cond rfl (fun e3 => ?_) (fun e3 => ?_)
    · refine T_auto TT_ok rfl ?_
      refine RJ_Q TT_ok (l1Max_q _ _) rfl rfl rfl rfl rfl ?_
      exact X_inv (k + 1) hk (by omega) ⟨⟨_, rfl, SV.imp_refl _⟩, ⟨_, rfl, SV.imp_of (vI_eq (show _ = stepV _ _ _ _ _ from ((if_neg e1').trans ((if_neg e2').trans (if_pos e3))).symm))⟩, (by repeat (first | exact trivial | refine And.intro ⟨_, rfl, SV.imp_refl _⟩ ?_))⟩ (by repeat (first | exact trivial | refine And.intro ⟨_, rfl, Ch.imp_refl _⟩ ?_))
    have e3' := Bool.eq_false_iff.1 e3
    refine T_auto TT_ok rfl ?_
    refine RJ_Q TT_ok (l6Logged_q _ bl _ _ _) rfl rfl rfl rfl rfl ?_
    refine T_cond rfl (fun e4 => ?_) (fun e4 => ?_)
    · refine T_auto TT_ok rfl ?_
      refine RJ_Q TT_ok (l1Max_q _ _) rfl rfl rfl rfl rfl ?_
      exact X_inv (k + 1) hk (by omega) ⟨⟨_, rfl, SV.imp_refl _⟩, ⟨_, rfl, SV.imp_of (vI_eq (show _ = stepV _ _ _ _ _ from ((if_neg e1').trans ((if_neg e2').trans ((if_neg e3').trans (if_pos e4)))).symm))⟩, (by repeat (first | exact trivial | refine And.intro ⟨_, rfl, SV.imp_refl _⟩ ?_))⟩ (by repeat (first | exact trivial | refine And.intro ⟨_, rfl, Ch.imp_refl _⟩ ?_))
    · have e4' := Bool.eq_false_iff.1 e4
      refine T_auto TT_ok rfl ?_
      exact X_inv (k + 1) hk (by omega) ⟨⟨_, rfl, SV.imp_refl _⟩, ⟨_, rfl, SV.imp_of (vI_eq (show _ = stepV _ _ _ _ _ from ((if_neg e1').trans ((if_neg e2').trans ((if_neg e3').trans (if_neg e4')))).symm))⟩, (by repeat (first | exact trivial | refine And.intro ⟨_, rfl, SV.imp_refl _⟩ ?_))⟩ (by repeat (first | exact trivial | refine And.intro ⟨_, rfl, Ch.imp_refl _⟩ ?_))
  · have hk : k = (c.places.getD r0.toNat GPlace.z).machines.length := by simp at e h1 ⊢; omega
    subst hk
    refine T_auto TT_ok rfl ?_
    exact T_ansI TT_ok [(6, none)] rfl rfl (rfl)
theorem impl_vote_q (c : GCluster) (hb : D.bds bigN (cCluster c)) (hok : ClusOk c) (id r0 : Int) (hr : 0 ≤ r0 ∧ r0 < c.places.length) : Ans Tryz.prog 191 [] [vP (cCluster c), vI id, vI r0] [] (vI (voteN c id r0 (c.places.getD r0.toNat GPlace.z).machines.length)) := by
  have hp := hok.pl (r := r0.toNat) (by omega)
  refine con_enter Tryz.func191 rfl rfl rfl fun B0 r_ D_ w0 => ?_
  refine T_auto TT_ok rfl ?_
  refine T_loopA (ι := Nat) (fun k => [(20, vI k), (7, vI (voteN c id r0 k))]) (fun _ => []) (fun k => k ≤ (c.places.getD r0.toNat GPlace.z).machines.length) (fun k => (c.places.getD r0.toNat GPlace.z).machines.length - k) 0 [] [] rfl rfl (Nat.zero_le _) (by repeat (first | exact trivial | refine And.intro ⟨_, rfl, SV.imp_refl _⟩ ?_)) (by repeat (first | exact trivial | refine And.intro ⟨_, rfl, Ch.imp_refl _⟩ ?_)) ?_
  intro k h1
  refine T_auto TT_ok rfl ?_
  refine T_condD rfl (fun e => ?_) (fun e => ?_)
  · have hk : k < (c.places.getD r0.toNat GPlace.z).machines.length := by simp at e ⊢; omega
    have hm := (hok.at (r := r0.toNat) (by omega) hk).1
    have bm := bdM_any hb (mAt c r0.toNat k).toNat
    have bl : (machAt c r0.toNat k).log.length ≤ 1048576 := bm.2.2.1.1
    have bc : (machAt c r0.toNat k).cleared.length ≤ 1048576 := bm.2.2.2.1.1
    refine T_auto TT_ok rfl ?_
    refine T_condX rfl (fun e1 => ?_) (fun e1 => ?_)
    · refine T_auto TT_ok rfl ?_
      exact X_inv (k + 1) hk (by omega) ⟨⟨_, rfl, SV.imp_refl _⟩, ⟨_, rfl, SV.imp_of (vI_eq (show _ = stepV _ _ _ _ _ from (if_pos e1).symm))⟩, (by repeat (first | exact trivial | refine And.intro ⟨_, rfl, SV.imp_refl _⟩ ?_))⟩ (by repeat (first | exact trivial | refine And.intro ⟨_, rfl, Ch.imp_refl _⟩ ?_))
    have e1' : ¬ (machAt c r0.toNat k).alive = false := by rw [show (machAt c r0.toNat k).alive = true from e1]; simp
    refine T_auto TT_ok rfl ?_
    refine RJ_Q TT_ok (logged_q _ bl _ _ _) rfl rfl rfl rfl rfl ?_
    refine RJ_Q TT_ok (contains_Int_q _ bc _) rfl rfl rfl rfl rfl ?_
    refine T_cond rfl (fun e2 => ?_) (fun e2 => ?_)
    · refine T_auto TT_ok rfl ?_
      exact X_inv (k + 1) hk (by omega) ⟨⟨_, rfl, SV.imp_refl _⟩, ⟨_, rfl, SV.imp_of (vI_eq (show _ = stepV _ _ _ _ _ from ((if_neg e1').trans ((if_pos e2).trans (maxI_impl _ _).symm)).symm))⟩, (by repeat (first | exact trivial | refine And.intro ⟨_, rfl, SV.imp_refl _⟩ ?_))⟩ (by repeat (first | exact trivial | refine And.intro ⟨_, rfl, Ch.imp_refl _⟩ ?_))
    have e2' := Bool.eq_false_iff.1 e2
    refine T_auto TT_ok rfl ?_
    refine RJ_Q TT_ok (logged_q _ bl _ _ _) rfl rfl rfl rfl rfl ?_
    refine T_cond rfl (fun e3 => ?_) (fun e3 => ?_)
    · refine T_auto TT_ok rfl ?_
      exact X_inv (k + 1) hk (by omega) ⟨⟨_, rfl, SV.imp_refl _⟩, ⟨_, rfl, SV.imp_of (vI_eq (show _ = stepV _ _ _ _ _ from ((if_neg e1').trans ((if_neg e2').trans ((if_pos e3).trans (maxI_impl _ _).symm))).symm))⟩, (by repeat (first | exact trivial | refine And.intro ⟨_, rfl, SV.imp_refl _⟩ ?_))⟩ (by repeat (first | exact trivial | refine And.intro ⟨_, rfl, Ch.imp_refl _⟩ ?_))
    have e3' := Bool.eq_false_iff.1 e3
    refine T_auto TT_ok rfl ?_
    refine RJ_Q TT_ok (logged_q _ bl _ _ _) rfl rfl rfl rfl rfl ?_
    refine T_cond rfl (fun e4 => ?_) (fun e4 => ?_)
    · refine T_auto TT_ok rfl ?_
      exact X_inv (k + 1) hk (by omega) ⟨⟨_, rfl, SV.imp_refl _⟩, ⟨_, rfl, SV.imp_of (vI_eq (show _ = stepV _ _ _ _ _ from ((if_neg e1').trans ((if_neg e2').trans ((if_neg e3').trans ((if_pos e4).trans (maxI_impl _ _).symm)))).symm))⟩, (by repeat (first | exact trivial | refine And.intro ⟨_, rfl, SV.imp_refl _⟩ ?_))⟩ (by repeat (first | exact trivial | refine And.intro ⟨_, rfl, Ch.imp_refl _⟩ ?_))
    · have e4' := Bool.eq_false_iff.1 e4
      refine T_auto TT_ok rfl ?_
      exact X_inv (k + 1) hk (by omega) ⟨⟨_, rfl, SV.imp_refl _⟩, ⟨_, rfl, SV.imp_of (vI_eq (show _ = stepV _ _ _ _ _ from ((if_neg e1').trans ((if_neg e2').trans ((if_neg e3').trans (if_neg e4')))).symm))⟩, (by repeat (first | exact trivial | refine And.intro ⟨_, rfl, SV.imp_refl _⟩ ?_))⟩ (by repeat (first | exact trivial | refine And.intro ⟨_, rfl, Ch.imp_refl _⟩ ?_))
  · have hk : k = (c.places.getD r0.toNat GPlace.z).machines.length := by simp at e h1 ⊢; omega
    subst hk
    refine T_auto TT_ok rfl ?_
    exact T_ansI TT_ok [(6, none)] rfl rfl (rfl)
end Go.Proofs.YtcikaknfogpeeaaGreat
namespace Go.Proofs.YtcikaknfogpeeaaGreat
open Go Go.RowKit
set_option linter.unusedVariables false
set_option linter.unusedSimpArgs false
set_option maxRecDepth 4000
theorem ClusOk.tx {c : GCluster} (h : ClusOk c) {i : Nat} (hi : i < c.txs.length) : TxOk (c.txs.getD i GTx.z) := by
  have h1 := (h.2.2.2.2 i hi).1
  unfold badTx at h1
  cases c1 : dec (TxOk (c.txs.getD i GTx.z)) with
  | true => exact dec_iff.1 c1
  | false => rw [c1] at h1; cases h1
theorem ClusOk.set {c : GCluster} (h : ClusOk c) {i k : Nat} (hi : i < c.txs.length) (hk : k < (c.txs.getD i GTx.z).sets.length) : 0 ≤ ((c.txs.getD i GTx.z).sets.getD k GSet.z).region ∧ ((c.txs.getD i GTx.z).sets.getD k GSet.z).region < c.places.length := by
  have h1 := ((h.tx hi).2.2 k hk).1
  refine ⟨?_, (h.2.2.2.2 i hi).2.2 k hk⟩
  unfold setB at h1
  cases c1 : inB ((c.txs.getD i GTx.z).sets.getD k GSet.z).region 0 5 with
  | true => exact (inB_iff.1 c1).1
  | false => rw [c1] at h1; cases h1
theorem ClusOk.note {c : GCluster} (h : ClusOk c) {i k : Nat} (hi : i < c.txs.length) (hk : k < (c.txs.getD i GTx.z).reads.length) : 0 ≤ ((c.txs.getD i GTx.z).reads.getD k GNote.z).region ∧ ((c.txs.getD i GTx.z).reads.getD k GNote.z).region < c.places.length := by
  have h1 := ((h.tx hi).2.1 k hk).1
  refine ⟨?_, (h.2.2.2.2 i hi).2.1 k hk⟩
  unfold noteB at h1
  cases c1 : inB ((c.txs.getD i GTx.z).reads.getD k GNote.z).region 0 5 with
  | true => exact (inB_iff.1 c1).1
  | false => rw [c1] at h1; cases h1
theorem l3Copy_m (xs : List GCell) (hl : xs.length ≤ 1048576) : MkL Tryz.prog 48 [vL 2 cCell GCell.z xs] 2 cCell GCell.z xs := by
  refine con_enter Tryz.func48 rfl rfl rfl fun B0 r_ D_ w0 => ?_
  refine T_auto TT_ok rfl ?_
  refine RJ_bs TT_ok 3 (fun i => cCell (([] : List GCell).getD i GCell.z)) rfl rfl rfl rfl rfl rfl rfl (fun i hi => absurd hi (Nat.not_lt_zero _)) (mu1 := []) rfl rfl rfl ?_
  refine RJ_auto TT_ok rfl ?_
  refine RJ_appC TT_ok 3 900 rfl rfl rfl rfl rfl rfl rfl rfl rfl rfl rfl rfl ⟨by simp; omega, by unfold maxL; omega⟩ ?_
  refine RJ_auto TT_ok rfl ?_
  refine T_ret TT_ok (()) [(2, none)] rfl rfl ?_ ?_ ?_
  · exact SVs.imp_refl _
  · exact ⟨⟨_, rfl, imp_app (ys := ([] : List GCell)) (by simp)⟩, trivial⟩
  · trivial
end Go.Proofs.YtcikaknfogpeeaaGreat
namespace Go.Proofs.YtcikaknfogpeeaaGreat
open Go Go.RowKit
set_option linter.unusedVariables false
set_option linter.unusedSimpArgs false
set_option maxRecDepth 4000
theorem l11Down_i (c : GCluster) (b1 : c.places.length ≤ 1048576) (hok : ClusOk c) (r0 : Int) (hr : 0 ≤ r0 ∧ r0 < c.places.length) : Ans Tryz.prog 111 [] [vR (cCluster c), vI r0] [] (vB (downB c r0.toNat)) := by
  have h := l11Down_q c b1 hok r0.toNat (by omega)
  rwa [Int.toNat_of_nonneg hr.1] at h
def homeB (c : GCluster) (t : GTx) : Bool := (c.machines.getD t.home.toNat GMachine.z).alive
def checksL (t : GTx) : List GNote := t.reads.filter (noSet t)
def strB (c : GCluster) (t : GTx) : Bool := if t.phase = 1 then !homeB c t else if t.phase = 7 ∨ t.phase = 9 then false else if homeB c t = false then true else (t.sets.any fun s => downB c s.region.toNat) || (checksL t).any fun n => downB c n.region.toNat
structure TxIn (c : GCluster) (t : GTx) : Prop where
  ok : TxOk t
  home : 0 ≤ t.home ∧ t.home < c.machines.length
  note : ∀ k, k < t.reads.length → 0 ≤ (t.reads.getD k GNote.z).region ∧ (t.reads.getD k GNote.z).region < c.places.length
  set : ∀ k, k < t.sets.length → 0 ≤ (t.sets.getD k GSet.z).region ∧ (t.sets.getD k GSet.z).region < c.places.length
theorem ClusOk.txIn {c : GCluster} (h : ClusOk c) {i : Nat} (hi : i < c.txs.length) : TxIn c (c.txs.getD i GTx.z) := by
  refine ⟨h.tx hi, ⟨(h.tx hi).1.2.1.1, ?_⟩, fun k hk => h.note hi hk, fun k hk => h.set hi hk⟩
  have h1 := (h.2.2.2.2 i hi).1
  unfold badTx at h1
  simp only [Bool.cond_true_left, Bool.or_eq_false_iff, decide_eq_false_iff_not] at h1
  have := h1.1.2
  omega
theorem checksL_in {c : GCluster} {t : GTx} (h : TxIn c t) {k : Nat} (hk : k < (checksL t).length) : 0 ≤ ((checksL t).getD k GNote.z).region ∧ ((checksL t).getD k GNote.z).region < c.places.length := by
  have hm : (checksL t).getD k GNote.z ∈ t.reads := by
    have : (checksL t).getD k GNote.z = (checksL t)[k] := by rw [List.getD_eq_getElem?_getD, List.getElem?_eq_getElem hk]; rfl
    rw [this]
    exact (List.mem_filter.1 (List.getElem_mem hk)).1
  obtain ⟨j, hj, e⟩ := List.mem_iff_getElem.1 hm
  have h2 := h.note j hj
  rwa [show t.reads.getD j GNote.z = (checksL t).getD k GNote.z from by rw [List.getD_eq_getElem?_getD, List.getElem?_eq_getElem hj]; exact e] at h2
theorem spec_l11Stricken_q (c : GCluster) (hb : D.bds bigN (cCluster c)) (hok : ClusOk c) (t : GTx) (ht : TxIn c t) : Ans Tryz.prog 43 [] [vR (cCluster c), vR (cTx t)] [] (vB (strB c t)) := by
  have b1 : c.places.length ≤ 1048576 := hb.2.2.1.1
  have r1 : t.reads.length ≤ 1048576 := by have := ht.ok.1; unfold headOk at this; omega
  have r2 : t.sets.length ≤ 1048576 := by have := ht.ok.1; unfold headOk at this; omega
  have hh := ht.home
  have hcl : (checksL t).length ≤ t.reads.length := List.length_filter_le _ _
  refine con_enter Tryz.func43 rfl rfl rfl fun B0 r_ D_ w0 => ?_
  refine T_auto1 TT_ok rfl ?_
  refine T_freeze 2 rfl rfl rfl rfl (fun _ => rfl) (fun _ => rfl) fun r_ => ?_
  refine T_freeze 3 rfl rfl rfl rfl (fun _ => rfl) (fun _ => rfl) fun r_ => ?_
  refine T_auto TT_ok rfl ?_
  refine T_condE rfl (fun e1 => ?_) (fun e1 => ?_)
  · refine T_auto TT_ok rfl ?_
    exact T_ansB TT_ok [(4, none)] rfl rfl ((by rw [strB, if_pos e1]; rfl))
  refine T_auto TT_ok rfl ?_
  refine T_condE rfl (fun e2 => ?_) (fun e2 => ?_)
  · refine T_auto TT_ok rfl ?_
    refine T_cond rfl (fun _ => ?_) (fun e => absurd e2 (by simpa using e))
    refine T_auto TT_ok rfl ?_
    exact T_ansB TT_ok [(4, none)] rfl rfl ((by rw [strB, if_neg e1, if_pos (.inl e2)]))
  refine T_auto TT_ok rfl ?_
  refine T_condE rfl (fun e3 => ?_) (fun e3 => ?_)
  · refine T_auto TT_ok rfl ?_
    exact T_ansB TT_ok [(4, none)] rfl rfl ((by rw [strB, if_neg e1, if_pos (.inr e3)]))
  have hstr : strB c t = if homeB c t = false then true else (t.sets.any fun s => downB c s.region.toNat) || (checksL t).any fun n => downB c n.region.toNat := by
    rw [strB, if_neg e1, if_neg (by omega)]
  rw [hstr]
  clear hstr
  refine T_auto TT_ok rfl ?_
  refine T_condX rfl (fun e4 => ?_) (fun e4 => ?_)
  · refine T_auto TT_ok rfl ?_
    exact T_ansB TT_ok [(4, none)] rfl rfl ((by rw [if_pos (show homeB c t = false from e4)]))
  rw [if_neg (show ¬ homeB c t = false from by rw [show homeB c t = true from e4]; simp)]
  refine T_auto TT_ok rfl ?_
  refine T_loopA (ι := Nat) (fun i => [(6, vI i)]) (fun _ => []) (fun i => i ≤ t.sets.length ∧ ∀ j, j < i → downB c (t.sets.getD j GSet.z).region.toNat = false) (fun i => t.sets.length - i) 0 [] [] rfl rfl ⟨Nat.zero_le _, fun j hj => absurd hj (Nat.not_lt_zero _)⟩ (by repeat (first | exact trivial | refine And.intro ⟨_, rfl, SV.imp_refl _⟩ ?_)) (by repeat (first | exact trivial | refine And.intro ⟨_, rfl, Ch.imp_refl _⟩ ?_)) ?_
  intro i ⟨h1, h2⟩
  refine T_auto TT_ok rfl ?_
  refine T_condD rfl (fun e => ?_) (fun e => ?_)
  · have hi : i < t.sets.length := by omega
    refine T_auto TT_ok rfl ?_
    refine T_drawA TT_ok [] rfl rfl fun B0 H0 => ?_
    refine DJ_Q TT_ok (l11Down_i c b1 hok _ (ht.set i hi)) rfl rfl rfl rfl rfl rfl ?_
    refine DJ_endA TT_ok rfl ?_
    refine T_cond rfl (fun e5 => ?_) (fun e5 => ?_)
    · refine T_auto TT_ok rfl ?_
      exact T_ansB TT_ok [(4, none)] rfl rfl ((by rw [any_at (p := fun s => downB c s.region.toNat) hi e5]; rfl))
    · refine T_auto TT_ok rfl ?_
      exact X_inv (i + 1) ⟨hi, before_succ h2 e5⟩ (by omega) (by repeat (first | exact trivial | refine And.intro ⟨_, rfl, SV.imp_refl _⟩ ?_)) (by repeat (first | exact trivial | refine And.intro ⟨_, rfl, Ch.imp_refl _⟩ ?_))
  have hs : (t.sets.any fun s => downB c s.region.toNat) = false := any_no (z := GSet.z) fun j hj => h2 j (by omega)
  rw [hs]
  refine T_auto TT_ok rfl ?_
  refine RJ_C TT_ok (Con.sw 900 42 (l7Checks_m t r1 r2)) rfl rfl (SVs.imp_refl _) (fun _ => rfl) rfl rfl rfl fun _ _ => ?_
  refine RJ_auto TT_ok rfl ?_
  refine T_loopA (ι := Nat) (fun i => [(8, vI i)]) (fun _ => []) (fun i => i ≤ (checksL t).length ∧ ∀ j, j < i → downB c ((checksL t).getD j GNote.z).region.toNat = false) (fun i => (checksL t).length - i) 0 [] [] rfl rfl ⟨Nat.zero_le _, fun j hj => absurd hj (Nat.not_lt_zero _)⟩ (by repeat (first | exact trivial | refine And.intro ⟨_, rfl, SV.imp_refl _⟩ ?_)) (by repeat (first | exact trivial | refine And.intro ⟨_, rfl, Ch.imp_refl _⟩ ?_)) ?_
  intro i ⟨h3, h4⟩
  have hcl2 : (t.reads.filter (noSet t)).length ≤ t.reads.length := hcl
  refine T_auto TT_ok rfl ?_
  refine T_condD rfl (fun e6 => ?_) (fun e6 => ?_)
  · have hi : i < (checksL t).length := by have : (i : Int) < (checksL t).length := e6; omega
    have hi2 : i < (t.reads.filter (noSet t)).length := hi
    refine T_auto TT_ok rfl ?_
    refine T_drawA TT_ok [] rfl rfl fun B0 H0 => ?_
    refine DJ_Q TT_ok (l11Down_i c b1 hok _ (checksL_in ht hi)) rfl rfl rfl rfl rfl rfl ?_
    refine DJ_endA TT_ok rfl ?_
    refine T_cond rfl (fun e5 => ?_) (fun e5 => ?_)
    · refine T_auto TT_ok rfl ?_
      exact T_ansB TT_ok [(4, none)] rfl rfl ((by rw [any_at (p := fun n => downB c n.region.toNat) hi e5]; rfl))
    · refine T_auto TT_ok rfl ?_
      exact X_inv (i + 1) ⟨hi, before_succ h4 e5⟩ (by omega) (by repeat (first | exact trivial | refine And.intro ⟨_, rfl, SV.imp_refl _⟩ ?_)) (by repeat (first | exact trivial | refine And.intro ⟨_, rfl, Ch.imp_refl _⟩ ?_))
  · refine T_auto TT_ok rfl ?_
    exact T_ansB TT_ok [(4, none)] rfl rfl ((by rw [any_no (z := GNote.z) fun j hj => h4 j (by have : ¬ (i : Int) < (checksL t).length := e6; omega)]; rfl))
theorem downs_q (c : GCluster) (hb : D.bds bigN (cCluster c)) (m0 : Int) (hm : 0 ≤ m0 ∧ m0 < c.machines.length) : Ans Tryz.prog 190 [] [vI m0, vP [.pt (cCluster c) 0]] [] (vB (!(c.machines.getD m0.toNat GMachine.z).alive)) := by
  refine con_enter Tryz.func190 rfl rfl rfl fun B0 r_ D_ w0 => ?_
  refine T_auto TT_ok rfl ?_
  exact T_ansB TT_ok [(3, none)] rfl rfl (rfl)
theorem down_any (c : GCluster) (r : Nat) : ((c.places.getD r GPlace.z).machines.any fun m => !(c.machines.getD m.toNat GMachine.z).alive) = downB c r := by
  unfold downB
  rcases hx : anyN (c.places.getD r GPlace.z).machines.length fun k => !(machAt c r k).alive with _ | _
  · exact any_no (z := 0) fun j hj => anyN_get hx j hj
  · obtain ⟨k, hk, h1⟩ := List.any_eq_true.1 hx
    exact any_at (z := 0) (List.mem_range.1 hk) h1
theorem stricken1_q (c : GCluster) (hb : D.bds bigN (cCluster c)) (hok : ClusOk c) (r0 : Int) (hr : 0 ≤ r0 ∧ r0 < c.places.length) : Ans Tryz.prog 189 [] [vI r0, vP [.pt (cCluster c) 0]] [] (vB (downB c r0.toNat)) := by
  have hpl := hok.pl (r := r0.toNat) (by omega)
  refine con_enter Tryz.func189 rfl rfl rfl fun B0 r_ D_ w0 => ?_
  refine T_auto TT_ok rfl ?_
  refine RJ_QF TT_ok (containsFuncInt64_p (c.places.getD r0.toNat GPlace.z).machines (by omega) (fun m => 0 ≤ m ∧ m < c.machines.length) (fun k hk => (hok.at (by omega) hk).1) fun m => !(c.machines.getD m.toNat GMachine.z).alive) rfl rfl (SVs.cons (SV.imp_refl _) (SVs.cons (imp_fb (enters_B (by kernel_rfl)) rfl fun args x ⟨n, hn, e1, e2⟩ => by subst e1; subst e2; exact downs_q c hb n hn) rfl)) rfl rfl ?_
  exact T_ansB TT_ok [(3, none)] rfl rfl (down_any c r0.toNat)
theorem cmI_mem {xs : List Int} {x : Int} : ∀ {k : Nat}, k ≤ xs.length → (x ∈ cmI xs k ↔ ∃ j, j < k ∧ xs.getD j 0 = x)
  | 0, _ => by simp [cmI]
  | k + 1, h => by
    have ih := cmI_mem (xs := xs) (x := x) (k := k) (by omega)
    by_cases c : k = 0 ∨ xs.getD k 0 ≠ xs.getD (k - 1) 0
    · rw [cmI_yes c, List.mem_append, ih]
      constructor
      · rintro (⟨j, h1, h2⟩ | h1)
        · exact ⟨j, by omega, h2⟩
        · exact ⟨k, by omega, (List.mem_singleton.1 h1).symm⟩
      · rintro ⟨j, h1, h2⟩
        by_cases hj : j = k
        · subst hj; exact .inr (List.mem_singleton.2 h2.symm)
        · exact .inl ⟨j, by omega, h2⟩
    · have c0 : 0 < k := by omega
      have c1 : xs.getD k 0 = xs.getD (k - 1) 0 := by
        by_cases h : xs.getD k 0 = xs.getD (k - 1) 0
        · exact h
        · exact absurd (.inr h) c
      rw [cmI_no c0 c1, ih]
      constructor
      · rintro ⟨j, h1, h2⟩; exact ⟨j, by omega, h2⟩
      · rintro ⟨j, h1, h2⟩
        by_cases hj : j = k
        · subst hj; exact ⟨j - 1, by omega, c1.symm.trans h2⟩
        · exact ⟨j, by omega, h2⟩
abbrev lookL (t : GTx) (i : Nat) : List Int := cmI (regsOf t) (regsOf t).length ++ ((checksL t).take i).map GNote.region
theorem look_any (c : GCluster) (t : GTx) : ((lookL t (checksL t).length).any fun r => downB c r.toNat) = ((t.sets.any fun s => downB c s.region.toNat) || (checksL t).any fun n => downB c n.region.toNat) := by
  rw [List.any_append, List.take_length, List.any_map]
  congr 1
  rw [Bool.eq_iff_iff, List.any_eq_true, List.any_eq_true]
  constructor
  · rintro ⟨x, hx, h1⟩
    obtain ⟨j, hj, e⟩ := (cmI_mem (Nat.le_refl _)).1 hx
    rw [regsOf_len] at hj
    rw [regsOf_at] at e
    refine ⟨t.sets.getD j GSet.z, ?_, by rw [e]; exact h1⟩
    rw [List.getD_eq_getElem?_getD, List.getElem?_eq_getElem hj]; exact List.getElem_mem hj
  · rintro ⟨s, hs, h1⟩
    obtain ⟨j, hj, e⟩ := List.mem_iff_getElem.1 hs
    refine ⟨s.region, (cmI_mem (Nat.le_refl _)).2 ⟨j, by rw [regsOf_len]; exact hj, ?_⟩, h1⟩
    rw [regsOf_at, List.getD_eq_getElem?_getD, List.getElem?_eq_getElem hj]; exact congrArg GSet.region e
theorem str_dead {c : GCluster} {t : GTx} (h : homeB c t = false) : (bif t.phase != 7 then t.phase != 9 else false) = strB c t := by
  unfold strB
  rw [h]
  by_cases h7 : t.phase = 7
  · simp [h7]
  · by_cases h9 : t.phase = 9
    · simp [h9]
    · simp [h7, h9]
theorem str_still {c : GCluster} {t : GTx} (h : homeB c t = true) (h2 : t.phase = 1 ∨ t.phase = 7 ∨ t.phase = 9) : false = strB c t := by
  unfold strB
  rw [h]
  rcases h2 with h | h | h <;> simp [h]
theorem look_in {c : GCluster} {t : GTx} (ht : TxIn c t) : ∀ k, k < (lookL t (checksL t).length).length → 0 ≤ (lookL t (checksL t).length).getD k 0 ∧ (lookL t (checksL t).length).getD k 0 < c.places.length := fun k hk => by
  have hm : (lookL t (checksL t).length).getD k 0 ∈ lookL t (checksL t).length := by
    rw [List.getD_eq_getElem?_getD, List.getElem?_eq_getElem hk]; exact List.getElem_mem hk
  rcases List.mem_append.1 hm with h | h
  · obtain ⟨j, hj, e⟩ := (cmI_mem (Nat.le_refl _)).1 h
    rw [regsOf_len] at hj
    rw [regsOf_at] at e
    rw [← e]; exact ht.set j hj
  · rw [List.take_length] at h
    obtain ⟨n, hn, e⟩ := List.mem_map.1 h
    obtain ⟨j, hj, e2⟩ := List.mem_iff_getElem.1 hn
    rw [← e, ← e2]
    have := checksL_in ht hj
    rwa [List.getD_eq_getElem?_getD, List.getElem?_eq_getElem hj] at this
theorem impl_stricken_q (c : GCluster) (hb : D.bds bigN (cCluster c)) (hok : ClusOk c) (t : GTx) (ht : TxIn c t) : Ans Tryz.prog 117 [] [vP (cCluster c), vP (cTx t)] [] (vB (strB c t)) := by
  have b1 : c.places.length ≤ 1048576 := hb.2.2.1.1
  have r1 : t.reads.length ≤ 1048576 := by have := ht.ok.1; unfold headOk at this; omega
  have r2 : t.sets.length ≤ 1048576 := by have := ht.ok.1; unfold headOk at this; omega
  have r3 : t.reads.length ≤ 12 ∧ t.sets.length ≤ 12 := by have := ht.ok.1; unfold headOk at this; omega
  have hh := ht.home
  have hcl : (checksL t).length ≤ t.reads.length := List.length_filter_le _ _
  have hwl : (cmI (regsOf t) (regsOf t).length).length ≤ t.sets.length := by have := cmI_le (xs := regsOf t) (k := (regsOf t).length); rw [regsOf_len] at this ⊢; exact this
  refine con_enter Tryz.func117 rfl rfl rfl fun B0 r_ D_ w0 => ?_
  refine T_auto1 TT_ok rfl ?_
  refine T_freeze 2 rfl rfl rfl rfl (fun _ => rfl) (fun _ => rfl) fun r_ => ?_
  refine T_auto TT_ok rfl ?_
  refine T_drawA TT_ok [] rfl rfl fun B0 H0 => ?_
  refine DJ_endA TT_ok rfl ?_
  refine T_condX rfl (fun e1 => ?_) (fun e1 => ?_)
  · refine T_auto TT_ok rfl ?_
    exact T_ansB TT_ok [(4, none)] rfl rfl (str_dead e1)
  have e1' : homeB c t = true := e1
  refine T_auto TT_ok rfl ?_
  refine T_cond rfl (fun e2 => ?_) (fun e2 => ?_)
  · refine T_auto TT_ok rfl ?_
    exact T_ansB TT_ok [(4, none)] rfl rfl (str_still e1' (by simp at e2; omega))
  have e2' : ¬ t.phase = 1 ∧ ¬ (t.phase = 7 ∨ t.phase = 9) := by
    simp at e2; omega
  have hstr : strB c t = ((t.sets.any fun s => downB c s.region.toNat) || (checksL t).any fun n => downB c n.region.toNat) := by
    rw [strB, if_neg e2'.1, if_neg e2'.2, if_neg (by rw [e1']; simp)]
  rw [hstr, ← look_any]
  refine T_auto TT_ok rfl ?_
  refine RJ_C TT_ok (Con.sw 900 52 (wants_m t r2)) rfl rfl (SVs.imp_refl _) (fun _ => rfl) rfl rfl rfl fun _ _ => ?_
  refine RJ_auto TT_ok rfl ?_
  refine RJ_C TT_ok (Con.sw 900 54 (checks_m t r1 r2 (sortedS_of ht.ok.2.2))) rfl rfl (SVs.imp_refl _) (fun _ => rfl) rfl rfl rfl fun _ _ => ?_
  refine RJ_auto TT_ok rfl ?_
  refine T_loopA (ι := Nat) (fun i => [(56, vI i), (5, .a (.g 52))]) (fun i => [(52, arrC 1 cInt 0 (lookL t i))]) (fun i => i ≤ (checksL t).length) (fun i => (checksL t).length - i) 0 [52] [52] rfl rfl (Nat.zero_le _) (by repeat (first | exact trivial | refine And.intro ⟨_, rfl, SV.imp_refl _⟩ ?_)) ⟨⟨_, rfl, imp_list (by show _ = _ ++ _; simp only [List.take_zero, List.map_nil, List.append_nil])⟩, (by repeat (first | exact trivial | refine And.intro ⟨_, rfl, Ch.imp_refl _⟩ ?_))⟩ ?_
  intro i h3
  have hcl2 : (t.reads.filter (noSet t)).length ≤ t.reads.length := hcl
  have hll : (lookL t i).length ≤ t.sets.length + i := by have a1 : (((checksL t).take i).map GNote.region).length ≤ i := (by rw [List.length_map, List.length_take]; omega); rw [show (lookL t i).length = (cmI (regsOf t) (regsOf t).length).length + (((checksL t).take i).map GNote.region).length from List.length_append]; omega
  refine T_auto TT_ok rfl ?_
  refine T_condD rfl (fun e => ?_) (fun e => ?_)
  · have hi : i < (checksL t).length := by have : (i : Int) < (checksL t).length := e; omega
    have hi2 : i < (t.reads.filter (noSet t)).length := hi
    refine T_auto TT_ok rfl ?_
    refine RJ_bs TT_ok 63 (fun _ => cInt ((checksL t).getD i GNote.z).region) rfl rfl rfl rfl rfl rfl rfl (fun i hi => by rcases i with _ | i <;> first | rfl | omega) (mu1 := []) rfl rfl rfl ?_
    refine RJ_auto TT_ok rfl ?_
    refine RJ_appM TT_ok 52 63 64 rfl rfl rfl rfl rfl rfl rfl rfl rfl rfl rfl rfl ⟨by show ((lookL t i).length + 1) * 8 ≤ 140737488355328; omega, by unfold maxL; omega⟩ ?_
    refine RJ_auto TT_ok rfl ?_
    refine X_view (V_sw 52 64) ?_
    exact X_inv (i + 1) hi (by omega) (by repeat (first | exact trivial | refine And.intro ⟨_, rfl, SV.imp_refl _⟩ ?_)) ⟨⟨_, rfl, imp_app1 (x := ((checksL t).getD i GNote.z).region) (by show _ ++ _ = (_ ++ _) ++ _; rw [take_succ_getD (z := GNote.z) hi, List.map_append, List.append_assoc]; rfl) rfl⟩, (by repeat (first | exact trivial | refine And.intro ⟨_, rfl, Ch.imp_refl _⟩ ?_))⟩
  · have hi : i = (checksL t).length := by have : ¬ (i : Int) < (checksL t).length := e; omega
    subst hi
    refine T_auto TT_ok rfl ?_
    refine RJ_QF TT_ok (containsFuncInt64_p (lookL t (checksL t).length) (by omega) (fun r => 0 ≤ r ∧ r < c.places.length) (look_in ht) fun r => downB c r.toNat) rfl rfl (SVs.cons (SV.imp_refl _) (SVs.cons (imp_fb (enters_B (by kernel_rfl)) rfl fun args x ⟨n, hn, e1, e2⟩ => by subst e1; subst e2; exact stricken1_q c hb hok n hn) rfl)) rfl rfl ?_
    exact T_ansB TT_ok [(4, none)] rfl rfl (rfl)
end Go.Proofs.YtcikaknfogpeeaaGreat
namespace Go.Proofs.YtcikaknfogpeeaaGreat
open Go Go.RowKit
set_option linter.unusedVariables false
set_option linter.unusedSimpArgs false
set_option maxRecDepth 4000
theorem marks_le {x : GCluster} (h : wCluster x ≤ 1048576) : (1 : Int) + (sumW mPlace x.places : Nat) + (sumW mMachine x.machines : Nat) + (sumW mTx x.txs : Nat) ≤ 1000000000000 := by
  have := mCluster_le x
  unfold mCluster at this
  omega
theorem marks_of {x : GCluster} (e : ¬ szI 1048576 (wCluster x) < 0) : (1 : Int) + (sumW mPlace x.places : Nat) + (sumW mMachine x.machines : Nat) + (sumW mTx x.txs : Nat) ≤ 1000000000000 := marks_le (by have := (szI_in e).2.2.2; omega)
end Go.Proofs.YtcikaknfogpeeaaGreat
namespace Go.Proofs.YtcikaknfogpeeaaGreat
open Go Go.RowKit
set_option linter.unusedVariables false
set_option linter.unusedSimpArgs false
set_option maxRecDepth 4000
abbrev nilV : V := .v (.slice none 0 0)
abbrev MkT (P : Program) (f : Nat) (args : List SV) (t : GTx) : Prop := Con P f [] args [] (fun _ : Unit => True) (fun _ => [agTxG t 901 902]) fun _ => [(901, arrC 5 cNote GNote.z t.reads), (902, arrC 5 cSet GSet.z t.sets)]
abbrev MkR (P : Program) (f : Nat) (args : List SV) (t : GRecord) : Prop := Con P f [] args [] (fun _ : Unit => True) (fun _ => [agRecordG t 901]) fun _ => [(901, arrC 5 cSet GSet.z t.sets)]
abbrev MkMach (P : Program) (f : Nat) (args : List SV) (m : GMachine) : Prop := Con P f [] args [] (fun _ : Unit => True) (fun _ => [agMachineG m 901 902 903]) fun _ => [(901, arrC 2 cCopy GCopy.z m.copies), (902, arrC 4 cRecord GRecord.z m.log), (903, arrC 1 cInt 0 m.cleared)]
abbrev MkClus (P : Program) (f : Nat) (args : List SV) (c : GCluster) : Prop := Con P f [] args [] (fun _ : Unit => True) (fun _ => [agClusterG c 901 902 903]) fun _ => [(901, arrC 1 cPlace GPlace.z c.places), (902, arrC 4 cMachine GMachine.z c.machines), (903, arrC 7 cTx GTx.z c.txs)]
theorem l7Copy_m (t : GTx) (h1 : t.reads.length ≤ 1048576) (h2 : t.sets.length ≤ 1048576) : MkT Tryz.prog 54 [vR (cTx t)] t := by
  refine con_enter Tryz.func54 rfl rfl rfl fun B0 r_ D_ w0 => ?_
  refine T_auto TT_ok rfl ?_
  refine RJ_bs TT_ok 3 (fun i => cNote (([] : List GNote).getD i GNote.z)) rfl rfl rfl rfl rfl rfl rfl (fun i hi => absurd hi (Nat.not_lt_zero _)) (mu1 := []) rfl rfl rfl ?_
  refine RJ_auto TT_ok rfl ?_
  refine RJ_appC TT_ok 3 901 rfl rfl rfl rfl rfl rfl rfl rfl rfl rfl rfl rfl ⟨by simp; omega, by unfold maxL; omega⟩ ?_
  refine RJ_auto TT_ok rfl ?_
  refine RJ_bs TT_ok 8 (fun i => cSet (([] : List GSet).getD i GSet.z)) rfl rfl rfl rfl rfl rfl rfl (fun i hi => absurd hi (Nat.not_lt_zero _)) (mu1 := []) rfl rfl rfl ?_
  refine RJ_auto TT_ok rfl ?_
  refine RJ_appC TT_ok 8 902 rfl rfl rfl rfl rfl rfl rfl rfl rfl rfl rfl rfl ⟨by simp; omega, by unfold maxL; omega⟩ ?_
  refine RJ_auto TT_ok rfl ?_
  refine T_ret TT_ok (()) [(2, some 62)] rfl rfl ?_ ?_ ?_
  · exact SVs.imp_refl _
  · exact ⟨⟨_, rfl, imp_app (ys := ([] : List GNote)) (by simp)⟩, ⟨_, rfl, imp_app (ys := ([] : List GSet)) (by simp)⟩, trivial⟩
  · trivial
theorem cloneTx_m (t : GTx) (h1 : t.reads.length ≤ 1048576) (h2 : t.sets.length ≤ 1048576) : MkT Tryz.prog 86 [vR (cTx t)] t := by
  refine con_enter Tryz.func86 rfl rfl rfl fun B0 r_ D_ w0 => ?_
  refine T_auto TT_ok rfl ?_
  refine T_drawL TT_ok [] [0, 1, 3, 4, 2, 5, 6, 7, 8, 9] rfl rfl fun B0 H0 => ?_
  refine DJ_C 2 (Con.sw 900 901 (cloneNote_m t.reads h1)) rfl rfl rfl (SVs.imp_refl _) (fun _ => rfl) rfl rfl rfl fun _ _ => ?_
  refine DJ_onL TT_ok [6, 5, 7, 8, 9] rfl ?_
  refine DJ_C 5 (Con.sw 900 902 (cloneSet_m t.sets h2)) rfl rfl rfl (SVs.imp_refl _) (fun _ => rfl) rfl rfl rfl fun _ _ => ?_
  refine DJ_sw2 7 rfl (by kernel_rfl) (by kernel_rfl) (OJ_M TT_ok rfl rfl rfl rfl rfl rfl (SJ_sw [1] fun B0 H0 => ?_))
  refine DJ_onL TT_ok [8, 9] rfl ?_
  refine DJ_sw2 9 rfl (by kernel_rfl) (by kernel_rfl) (OJ_M TT_ok rfl rfl rfl rfl rfl rfl (SJ_sw [] fun B0 H0 => ?_))
  refine DJ_endA TT_ok rfl ?_
  refine T_ret TT_ok (()) [(2, some 62)] rfl rfl ?_ ?_ ?_
  · exact SVs.imp_refl _
  · exact ⟨⟨_, rfl, Ch.imp_refl _⟩, ⟨_, rfl, Ch.imp_refl _⟩, trivial⟩
  · trivial
theorem l6Record_m (x : GRecord) (h1 : x.sets.length ≤ 1048576) : MkR Tryz.prog 126 [vR (cRecord x)] x := by
  refine con_enter Tryz.func126 rfl rfl rfl fun B0 r_ D_ w0 => ?_
  refine T_auto TT_ok rfl ?_
  refine RJ_bs TT_ok 3 (fun i => cSet (([] : List GSet).getD i GSet.z)) rfl rfl rfl rfl rfl rfl rfl (fun i hi => absurd hi (Nat.not_lt_zero _)) (mu1 := []) rfl rfl rfl ?_
  refine RJ_auto TT_ok rfl ?_
  refine RJ_appC TT_ok 3 901 rfl rfl rfl rfl rfl rfl rfl rfl rfl rfl rfl rfl ⟨by simp; omega, by unfold maxL; omega⟩ ?_
  refine RJ_auto TT_ok rfl ?_
  refine T_ret TT_ok (()) [(2, some 106)] rfl rfl ?_ ?_ ?_
  · exact SVs.imp_refl _
  · exact ⟨⟨_, rfl, imp_app (ys := ([] : List GSet)) (by simp)⟩, trivial⟩
  · trivial
theorem cloneRecord_m (x : GRecord) (h1 : x.sets.length ≤ 1048576) : MkR Tryz.prog 152 [vR (cRecord x)] x := by
  refine con_enter Tryz.func152 rfl rfl rfl fun B0 r_ D_ w0 => ?_
  refine T_auto TT_ok rfl ?_
  refine RJ_C TT_ok (Con.sw 900 901 (cloneSet_m x.sets h1)) rfl rfl (SVs.imp_refl _) (fun _ => rfl) rfl rfl rfl fun _ _ => ?_
  refine RJ_auto TT_ok rfl ?_
  refine T_ret TT_ok (()) [(2, some 106)] rfl rfl ?_ ?_ ?_
  · exact SVs.imp_refl _
  · exact ⟨⟨_, rfl, Ch.imp_refl _⟩, trivial⟩
  · trivial
theorem l6Copy_m (m : GMachine) (hb : D.bds bigN (cMachine m)) : MkMach Tryz.prog 53 [vR (cMachine m)] m := by
  have b1 : m.copies.length ≤ 1048576 := hb.2.1.1
  have b2 : m.log.length ≤ 1048576 := hb.2.2.1.1
  have b3 : m.cleared.length ≤ 1048576 := hb.2.2.2.1.1
  refine con_enter Tryz.func53 rfl rfl rfl fun B0 r_ D_ w0 => ?_
  refine T_auto1 TT_ok rfl ?_
  refine T_freeze 1 rfl rfl rfl rfl (fun _ => rfl) (fun _ => rfl) fun r_ => ?_
  refine T_seq ?_
  refine T_cut [(1, vP (cMachine m)), (2, .a (.p 2 0)), (3, .a (.p 3 0))] [(2, .row [.v (.bool false), nilV, nilV, nilV]), (3, .row [.v (.bool m.alive), nilV, nilV, .g 11]), (11, arrC 1 cInt 0 m.cleared)] ?_ fun key => ?_
  · refine X_go TT_ok rfl ?_
    refine T_view (V_nilR 3 1 2 (fun i => cCopy (([] : List GCopy).getD i GCopy.z)) rfl rfl rfl) ?_
    refine T_view (V_nilR 3 2 4 (fun i => cRecord (([] : List GRecord).getD i GRecord.z)) rfl rfl rfl) ?_
    refine T_view (V_open 3 1 31 rfl rfl rfl rfl rfl rfl) ?_
    refine T_view (V_open 3 2 32 rfl rfl rfl rfl rfl rfl) ?_
    refine T_loopA (ι := Nat) (fun i => [(4, vI i)]) (fun i => [(31, arrC 2 cCopy GCopy.z (m.copies.take i)), (3, .row [.v (.bool m.alive), .g 31, .g 32, .g 11])]) (fun i => i ≤ m.copies.length) (fun i => m.copies.length - i) 0 [31, 3] [31] rfl rfl (Nat.zero_le _) (by repeat (first | exact trivial | refine And.intro ⟨_, rfl, SV.imp_refl _⟩ ?_)) (by repeat (first | exact trivial | refine And.intro ⟨_, rfl, Ch.imp_refl _⟩ ?_)) ?_
    intro i h1
    refine T_auto TT_ok rfl ?_
    refine T_condD rfl (fun e => ?_) (fun e => ?_)
    · have hi : i < m.copies.length := by omega
      have hl : (m.copies.take i).length = i := by rw [List.length_take]; omega
      refine T_auto TT_ok rfl ?_
      refine T_drawL TT_ok [31] [0, 1, 2, 3, 4, 5, 6, 7, 8, 9, 10, 11, 12, 13, 14, 15, 16, 17, 18, 19] rfl rfl fun B0 H0 => ?_
      refine DJ_C 14 (Con.sw 900 34 (l3Copy_m (m.copies.getD i GCopy.z).cells (hb.2.1.2 i hi).2.1.1)) rfl rfl rfl (SVs.imp_refl _) (fun _ => rfl) rfl rfl rfl fun _ _ => ?_
      refine DJ_onL TT_ok [15, 16, 17, 18, 19] rfl ?_
      refine DJ_one 16 rfl (by kernel_rfl) (OJ_bs TT_ok 36 (fun _ => cCopy (m.copies.getD i GCopy.z)) rfl rfl rfl rfl rfl rfl rfl (fun j hj => by rcases j with _ | j <;> first | rfl | omega) (mu1 := [(34, .arr 0 0 fun _ => [])]) rfl rfl rfl (SJ_dj ?_))
      refine DJ_one 17 rfl (by kernel_rfl) (OJ_appM TT_ok 31 36 37 rfl rfl rfl rfl rfl rfl rfl rfl rfl rfl rfl rfl ⟨by show ((m.copies.take i).length + 1) * 32 ≤ _; omega, by unfold maxL; omega⟩ (SJ_dj ?_))
      refine DJ_onL TT_ok [18, 19] rfl ?_
      refine DJ_sw2 19 rfl (by kernel_rfl) (by kernel_rfl) (OJ_M TT_ok rfl rfl rfl rfl rfl rfl (SJ_sw [] fun B0 H0 => ?_))
      refine DJ_endA TT_ok rfl ?_
      refine X_view (V_sw 31 37) ?_
      exact X_inv (i + 1) hi (by omega) (by repeat (first | exact trivial | refine And.intro ⟨_, rfl, SV.imp_refl _⟩ ?_)) ⟨⟨_, rfl, imp_app1 (x := m.copies.getD i GCopy.z) (take_succ_getD hi) rfl⟩, (by repeat (first | exact trivial | refine And.intro ⟨_, rfl, Ch.imp_refl _⟩ ?_))⟩
    have hi : i = m.copies.length := by omega
    subst hi
    rw [List.take_length]
    refine T_auto TT_ok rfl ?_
    refine T_loopA (ι := Nat) (fun i => [(5, vI i)]) (fun i => [(32, arrC 4 cRecord GRecord.z (m.log.take i)), (3, .row [.v (.bool m.alive), .g 31, .g 32, .g 11])]) (fun i => i ≤ m.log.length) (fun i => m.log.length - i) 0 [32, 3] [32] rfl rfl (Nat.zero_le _) (by repeat (first | exact trivial | refine And.intro ⟨_, rfl, SV.imp_refl _⟩ ?_)) (by repeat (first | exact trivial | refine And.intro ⟨_, rfl, Ch.imp_refl _⟩ ?_)) ?_
    intro i h1
    refine T_auto TT_ok rfl ?_
    refine T_condD rfl (fun e => ?_) (fun e => ?_)
    · have hi : i < m.log.length := by omega
      have hl : (m.log.take i).length = i := by rw [List.length_take]; omega
      refine T_auto TT_ok rfl ?_
      refine T_drawL TT_ok [32] [0, 1, 2, 3, 4, 5, 6, 7, 8, 9, 10, 11] rfl rfl fun B0 H0 => ?_
      refine DJ_C 7 (Con.sw 901 53 (l6Record_m (m.log.getD i GRecord.z) (hb.2.2.1.2 i hi).2.2.2.1.1)) rfl rfl rfl (SVs.imp_refl _) (fun _ => rfl) rfl rfl rfl fun _ _ => ?_
      refine DJ_one 8 rfl (by kernel_rfl) (OJ_bs TT_ok 54 (fun _ => cRecord (m.log.getD i GRecord.z)) rfl rfl rfl rfl rfl rfl rfl (fun j hj => by rcases j with _ | j <;> first | rfl | omega) (mu1 := [(53, .arr 0 0 fun _ => [])]) rfl rfl rfl (SJ_dj ?_))
      refine DJ_one 9 rfl (by kernel_rfl) (OJ_appM TT_ok 32 54 55 rfl rfl rfl rfl rfl rfl rfl rfl rfl rfl rfl rfl ⟨by show ((m.log.take i).length + 1) * 48 ≤ _; omega, by unfold maxL; omega⟩ (SJ_dj ?_))
      refine DJ_onL TT_ok [10, 11] rfl ?_
      refine DJ_sw2 11 rfl (by kernel_rfl) (by kernel_rfl) (OJ_M TT_ok rfl rfl rfl rfl rfl rfl (SJ_sw [] fun B0 H0 => ?_))
      refine DJ_endA TT_ok rfl ?_
      refine X_view (V_sw 32 55) ?_
      exact X_inv (i + 1) hi (by omega) (by repeat (first | exact trivial | refine And.intro ⟨_, rfl, SV.imp_refl _⟩ ?_)) ⟨⟨_, rfl, imp_app1 (x := m.log.getD i GRecord.z) (take_succ_getD hi) rfl⟩, (by repeat (first | exact trivial | refine And.intro ⟨_, rfl, Ch.imp_refl _⟩ ?_))⟩
    have hi : i = m.log.length := by omega
    subst hi
    rw [List.take_length]
    refine T_auto TT_ok rfl ?_
    refine T_view (V_sw 31 901) ?_
    refine T_view (V_sw 32 902) ?_
    refine T_view (V_sw 11 903) ?_
    refine T_ret TT_ok (()) [(2, some 71)] rfl rfl ?_ ?_ ?_
    · exact SVs.imp_refl _
    · exact ⟨⟨_, rfl, Ch.imp_refl _⟩, ⟨_, rfl, Ch.imp_refl _⟩, ⟨_, rfl, Ch.imp_refl _⟩, trivial⟩
    · trivial
  · refine T_drawL TT_ok [] [0, 1, 3, 4, 2, 5, 6, 7, 8] rfl rfl fun B0 H0 => ?_
    refine DJ_two 2 7 rfl rfl (by kernel_rfl) (OJ_bs TT_ok 8 (fun i => cInt (([] : List Int).getD i 0)) rfl rfl rfl rfl rfl rfl rfl (fun i hi => absurd hi (Nat.not_lt_zero _)) (mu1 := []) rfl rfl rfl (SJ_dj ?_)) (OJ_M TT_ok rfl rfl rfl rfl rfl rfl (SJ_dj ?_))
    · skip
      refine DJ_two 5 7 rfl rfl (by kernel_rfl) (OJ_appC TT_ok 8 11 rfl rfl rfl rfl rfl rfl rfl rfl rfl rfl rfl rfl ⟨by simp; omega, by unfold maxL; omega⟩ (SJ_dj ?_)) (OJ_M TT_ok rfl rfl rfl rfl rfl rfl (SJ_dj ?_))
      · refine DJ_onL TT_ok [6, 7, 8] rfl ?_
        refine DJ_one 7 rfl (by kernel_rfl) (OJ_M TT_ok rfl rfl rfl rfl rfl rfl (SJ_dj ?_))
        refine DJ_one 8 rfl (by kernel_rfl) (OJ_M TT_ok rfl rfl rfl rfl rfl rfl (SJ_dj ?_))
        exact DJ_endK key (by repeat (first | exact trivial | refine And.intro ⟨_, rfl, SV.imp_refl _⟩ ?_)) ⟨⟨_, rfl, Ch.imp_refl _⟩, ⟨_, rfl, Ch.imp_refl _⟩, ⟨_, rfl, imp_app (ys := ([] : List Int)) (by simp)⟩, trivial⟩
      · skip
        refine DJ_one 5 rfl (by kernel_rfl) (OJ_appC TT_ok 8 11 rfl rfl rfl rfl rfl rfl rfl rfl rfl rfl rfl rfl ⟨by simp; omega, by unfold maxL; omega⟩ (SJ_dj ?_))
        refine DJ_onL TT_ok [6, 8] rfl ?_
        refine DJ_one 8 rfl (by kernel_rfl) (OJ_M TT_ok rfl rfl rfl rfl rfl rfl (SJ_dj ?_))
        exact DJ_endK key (by repeat (first | exact trivial | refine And.intro ⟨_, rfl, SV.imp_refl _⟩ ?_)) ⟨⟨_, rfl, Ch.imp_refl _⟩, ⟨_, rfl, Ch.imp_refl _⟩, ⟨_, rfl, imp_app (ys := ([] : List Int)) (by simp)⟩, trivial⟩
    · skip
      refine DJ_one 2 rfl (by kernel_rfl) (OJ_bs TT_ok 8 (fun i => cInt (([] : List Int).getD i 0)) rfl rfl rfl rfl rfl rfl rfl (fun i hi => absurd hi (Nat.not_lt_zero _)) (mu1 := []) rfl rfl rfl (SJ_dj ?_))
      refine DJ_one 5 rfl (by kernel_rfl) (OJ_appC TT_ok 8 11 rfl rfl rfl rfl rfl rfl rfl rfl rfl rfl rfl rfl ⟨by simp; omega, by unfold maxL; omega⟩ (SJ_dj ?_))
      refine DJ_onL TT_ok [6, 8] rfl ?_
      refine DJ_one 8 rfl (by kernel_rfl) (OJ_M TT_ok rfl rfl rfl rfl rfl rfl (SJ_dj ?_))
      exact DJ_endK key (by repeat (first | exact trivial | refine And.intro ⟨_, rfl, SV.imp_refl _⟩ ?_)) ⟨⟨_, rfl, Ch.imp_refl _⟩, ⟨_, rfl, Ch.imp_refl _⟩, ⟨_, rfl, imp_app (ys := ([] : List Int)) (by simp)⟩, trivial⟩
end Go.Proofs.YtcikaknfogpeeaaGreat
namespace Go.Proofs.YtcikaknfogpeeaaGreat
open Go Go.RowKit
set_option linter.unusedVariables false
set_option linter.unusedSimpArgs false
set_option maxRecDepth 4000
abbrev rowC (c : GCluster) (k1 k2 k3 : Nat) : List V := [.v (.int .i64 c.config), .v (.int .i64 c.clock), .g k1, .g k2, .g k3, .v (.bool c.lost)]
theorem imp_set {α : Type} {sz k : Nat} {enc : α → List D} {z y : α} {xs : List α} {l : List D} (hl : OwnI l (enc y)) : (Ch.arr sz xs.length fun j => bif Nat.beq j k then l else enc (xs.getD j z)).imp (arrC sz enc z (xs.set k y)) :=
  Ch.imp_own (by simp) fun j hj => by
    by_cases c : j = k
    · subst c
      rw [Nat.beq_refl]
      have : (xs.set j y).getD j z = y := by simp [hj]
      rw [this]; exact hl
    · have h1 : Nat.beq j k = false := by
        cases e : Nat.beq j k with
        | false => rfl
        | true => exact absurd (Nat.eq_of_beq_eq_true e) c
      have h2 : (xs.set k y).getD j z = xs.getD j z := by simp [List.getElem?_set_ne (Ne.symm c)]
      rw [h1, h2]; exact OwnI.refl _
end Go.Proofs.YtcikaknfogpeeaaGreat
namespace Go.Proofs.YtcikaknfogpeeaaGreat
open Go Go.RowKit
set_option linter.unusedVariables false
set_option linter.unusedSimpArgs false
set_option maxRecDepth 4000
section
variable {E : Env} {B : BE} {mu mu' : Mu} {w : World} {H : Nat → PH} {TT : List TI} {fr fr' : Fr} {gf gf' : GF} {a : Act} {all rest : List Oper} {Q : Exit → Act → World → Prop} {o : Oper} {J : Act → World → Prop} {G : AG}
theorem DJ_Cc {ι : Type} {f : Nat} {ks nk : List Nat} {args : List SV} {mu1 : Mu} {φ : ι → Prop} {res : ι → List SV} {mu1' : ι → Mu} (C : Con E.P f ks args mu1 φ res mu1') {svs args' : List SV} {g : Option (Nat × Nat × Bool)} {t : Nat} {q : Ob} {es : List Prop} {gs : List GO} {md : Mu}
    (hc : callC E.N all fr gf o = some (f, svs, g, t, gf')) (hw : wkSL mu (keysO mu1) ks svs = some (args', q)) (ha : SVs.imp E.P args' args) (hnk : ∀ y, keysOf (mu1' y) = nk) (hs : splitO fr gf [] q [] [] = some (es, gs)) (hmd : mdropKs (appK (keysO mu1) nk) mu = some md) {gf2 : GF} (hcut : cutKs (keysO mu1) fr gf' = some (fr', gf2))
    (k : ∀ y, φ y → SJ G J E ((t, resS (res y)) :: fr') gf2 (appM (mu1' y) md))
    (hin : WkIn mu mu1 := by repeat (first | exact trivial | refine And.intro ⟨_, rfl, ro_arr⟩ ?_ | refine And.intro ⟨_, rfl, ro_ro⟩ ?_ | refine And.intro ⟨_, rfl, ro_row⟩ ?_ | refine And.intro ⟨_, rfl, Ch.imp_refl _⟩ ?_)) (hg : litG fr gf g := by first | exact trivial | exact ⟨rfl, rfl⟩) (hkeys : keysB ks nk mu1 fr gf mu E.A.ks G.ks = true := by exact rfl) (hout : ∀ y, (SV.inKL (appK ks nk) (res y) && muIn (appK ks nk) (mu1' y)) = true := by exact fun _ => rfl) (hen : Enters E.P f := by exact enters_B (by kernel_rfl)) (he : PAlls es := by repeat (first | exact trivial | refine And.intro rfl ?_)) (ho : GAlls gs := by first | exact trivial | ((simp only [GAlls, GO.p, InR]; (repeat' (first | exact trivial | refine And.intro ?_ ?_ | refine fun _ => ?_)) <;> first | omega | (simp only [decide_eq_true_eq, decide_eq_false_iff_not, Int.toNat_natCast] at *; omega) | (simp at *; omega)))) : OJ G E all Q J o fr gf mu :=
  OJ_C C hc hg hen hw ha hs he ho hin hnk hkeys hout hmd hcut k
end
theorem imp_app1' {α : Type} {sz : Nat} {enc : α → List D} {z x : α} {ys rs : List α} {g : Nat → List D} (h : rs = ys ++ [x]) (hg : OwnI (g 0) (enc x)) : (Ch.arr sz (ys.length + 1) (appD ys.length (fun i => enc (ys.getD i z)) g)).imp (arrC sz enc z rs) := by
  subst h
  refine Ch.imp_own (by simp) fun i hi => ?_
  by_cases c : i < ys.length
  · rw [appD_lt c]; exact OwnI.of (by congr 1; simp [List.getElem?_append_left c])
  · have : i = ys.length := by omega
    subst this
    rw [appD_ge (by omega), Nat.sub_self]
    have e : (ys ++ [x]).getD ys.length z = x := by simp
    rw [e]; exact hg
theorem OwnI.sl {l m : List D} {sz n n' : Nat} {f g : Nat → List D} (hn : n = n') (h : ∀ i, i < n → f i = g i) (k : OwnI l m) : OwnI (.sl sz n f :: l) (.sl sz n' g :: m) := fun hh vs ⟨y, t, h1, h2, e1, e2, e3, e4, e5, e6⟩ =>
  ⟨y, t, h1, h2, e1, e2, e3, e4, by subst hn; exact D.own_congr h e5, k _ _ e6⟩
theorem cloneMachine_m (m : GMachine) (hb : D.bds bigN (cMachine m)) : MkMach Tryz.prog 85 [vR (cMachine m)] m := by
  have b1 : m.copies.length ≤ 1048576 := hb.2.1.1
  have b2 : m.log.length ≤ 1048576 := hb.2.2.1.1
  have b3 : m.cleared.length ≤ 1048576 := hb.2.2.2.1.1
  refine con_enter Tryz.func85 rfl rfl rfl fun B0 r_ D_ w0 => ?_
  refine T_auto1 TT_ok rfl ?_
  refine T_freeze 1 rfl rfl rfl rfl (fun _ => rfl) (fun _ => rfl) fun r_ => ?_
  refine T_seq ?_
  refine T_cut [(1, vP (cMachine m)), (2, .a (.p 2 0)), (3, .a (.p 3 0))] [(2, .row [.v (.bool false), nilV, nilV, nilV]), (3, .row [.v (.bool m.alive), nilV, nilV, .g 12]), (12, arrC 1 cInt 0 m.cleared)] ?_ fun key => ?_
  · refine X_go TT_ok rfl ?_
    refine T_view (V_nilR 3 1 2 (fun i => cCopy (([] : List GCopy).getD i GCopy.z)) rfl rfl rfl) ?_
    refine T_view (V_nilR 3 2 4 (fun i => cRecord (([] : List GRecord).getD i GRecord.z)) rfl rfl rfl) ?_
    refine T_view (V_open 3 1 31 rfl rfl rfl rfl rfl rfl) ?_
    refine T_view (V_open 3 2 32 rfl rfl rfl rfl rfl rfl) ?_
    refine T_loopA (ι := Nat) (fun i => [(17, vI i)]) (fun i => [(31, arrC 2 cCopy GCopy.z (m.copies.take i)), (3, .row [.v (.bool m.alive), .g 31, .g 32, .g 12])]) (fun i => i ≤ m.copies.length) (fun i => m.copies.length - i) 0 [31, 3] [31] rfl rfl (Nat.zero_le _) (by repeat (first | exact trivial | refine And.intro ⟨_, rfl, SV.imp_refl _⟩ ?_)) (by repeat (first | exact trivial | refine And.intro ⟨_, rfl, Ch.imp_refl _⟩ ?_)) ?_
    intro i h1
    refine T_auto TT_ok rfl ?_
    refine T_condD rfl (fun e => ?_) (fun e => ?_)
    · have hi : i < m.copies.length := by omega
      have hl : (m.copies.take i).length = i := by rw [List.length_take]; omega
      refine T_auto TT_ok rfl ?_
      refine T_drawL TT_ok [31] [0, 1, 2, 3, 4, 5, 6, 7, 8, 9, 10, 11] rfl rfl fun B0 H0 => ?_
      refine DJ_C 6 (Con.sw 900 27 (cloneCell_m (m.copies.getD i GCopy.z).cells (hb.2.1.2 i hi).2.1.1)) rfl rfl rfl (SVs.imp_refl _) (fun _ => rfl) rfl rfl rfl fun _ _ => ?_
      refine DJ_onL TT_ok [7, 8, 9, 10, 11] rfl ?_
      refine DJ_one 8 rfl (by kernel_rfl) (OJ_bs TT_ok 29 (fun _ => cCopy (m.copies.getD i GCopy.z)) rfl rfl rfl rfl rfl rfl rfl (fun j hj => by rcases j with _ | j <;> first | rfl | omega) (mu1 := [(27, .arr 0 0 fun _ => [])]) rfl rfl rfl (SJ_dj ?_))
      refine DJ_one 9 rfl (by kernel_rfl) (OJ_appM TT_ok 31 29 30 rfl rfl rfl rfl rfl rfl rfl rfl rfl rfl rfl rfl ⟨by show ((m.copies.take i).length + 1) * 32 ≤ _; omega, by unfold maxL; omega⟩ (SJ_dj ?_))
      refine DJ_onL TT_ok [10, 11] rfl ?_
      refine DJ_sw2 11 rfl (by kernel_rfl) (by kernel_rfl) (OJ_M TT_ok rfl rfl rfl rfl rfl rfl (SJ_sw [] fun B0 H0 => ?_))
      refine DJ_endA TT_ok rfl ?_
      refine X_view (V_sw 31 30) ?_
      exact X_inv (i + 1) hi (by omega) (by repeat (first | exact trivial | refine And.intro ⟨_, rfl, SV.imp_refl _⟩ ?_)) ⟨⟨_, rfl, imp_app1 (x := m.copies.getD i GCopy.z) (take_succ_getD hi) rfl⟩, (by repeat (first | exact trivial | refine And.intro ⟨_, rfl, Ch.imp_refl _⟩ ?_))⟩
    have hi : i = m.copies.length := by omega
    subst hi
    rw [List.take_length]
    refine T_auto TT_ok rfl ?_
    refine T_loopA (ι := Nat) (fun i => [(36, vI i)]) (fun i => [(32, arrC 4 cRecord GRecord.z (m.log.take i)), (3, .row [.v (.bool m.alive), .g 31, .g 32, .g 12])]) (fun i => i ≤ m.log.length) (fun i => m.log.length - i) 0 [32, 3] [32] rfl rfl (Nat.zero_le _) (by repeat (first | exact trivial | refine And.intro ⟨_, rfl, SV.imp_refl _⟩ ?_)) (by repeat (first | exact trivial | refine And.intro ⟨_, rfl, Ch.imp_refl _⟩ ?_)) ?_
    intro i h1
    refine T_auto TT_ok rfl ?_
    refine T_condD rfl (fun e => ?_) (fun e => ?_)
    · have hi : i < m.log.length := by omega
      have hl : (m.log.take i).length = i := by rw [List.length_take]; omega
      refine T_auto TT_ok rfl ?_
      refine T_drawL TT_ok [32] [0, 1, 2, 3, 4, 5, 6, 7] rfl rfl fun B0 H0 => ?_
      refine DJ_C 3 (Con.sw 901 43 (cloneRecord_m (m.log.getD i GRecord.z) (hb.2.2.1.2 i hi).2.2.2.1.1)) rfl rfl rfl (SVs.imp_refl _) (fun _ => rfl) rfl rfl rfl fun _ _ => ?_
      refine DJ_one 4 rfl (by kernel_rfl) (OJ_bs TT_ok 44 (fun _ => cRecord (m.log.getD i GRecord.z)) rfl rfl rfl rfl rfl rfl rfl (fun j hj => by rcases j with _ | j <;> first | rfl | omega) (mu1 := [(43, .arr 0 0 fun _ => [])]) rfl rfl rfl (SJ_dj ?_))
      refine DJ_one 5 rfl (by kernel_rfl) (OJ_appM TT_ok 32 44 45 rfl rfl rfl rfl rfl rfl rfl rfl rfl rfl rfl rfl ⟨by show ((m.log.take i).length + 1) * 48 ≤ _; omega, by unfold maxL; omega⟩ (SJ_dj ?_))
      refine DJ_onL TT_ok [6, 7] rfl ?_
      refine DJ_sw2 7 rfl (by kernel_rfl) (by kernel_rfl) (OJ_M TT_ok rfl rfl rfl rfl rfl rfl (SJ_sw [] fun B0 H0 => ?_))
      refine DJ_endA TT_ok rfl ?_
      refine X_view (V_sw 32 45) ?_
      exact X_inv (i + 1) hi (by omega) (by repeat (first | exact trivial | refine And.intro ⟨_, rfl, SV.imp_refl _⟩ ?_)) ⟨⟨_, rfl, imp_app1 (x := m.log.getD i GRecord.z) (take_succ_getD hi) rfl⟩, (by repeat (first | exact trivial | refine And.intro ⟨_, rfl, Ch.imp_refl _⟩ ?_))⟩
    have hi : i = m.log.length := by omega
    subst hi
    rw [List.take_length]
    refine T_auto TT_ok rfl ?_
    refine T_view (V_sw 31 901) ?_
    refine T_view (V_sw 32 902) ?_
    refine T_view (V_sw 12 903) ?_
    refine T_ret TT_ok (()) [(2, some 71)] rfl rfl ?_ ?_ ?_
    · exact SVs.imp_refl _
    · exact ⟨⟨_, rfl, Ch.imp_refl _⟩, ⟨_, rfl, Ch.imp_refl _⟩, ⟨_, rfl, Ch.imp_refl _⟩, trivial⟩
    · trivial
  · refine T_drawL TT_ok [] [0, 1, 2, 3, 4, 5, 6, 7] rfl rfl fun B0 H0 => ?_
    refine DJ_two 4 6 rfl rfl (by kernel_rfl) (DJ_Cc (Con.sw 900 12 (cloneInt64_m m.cleared b3)) rfl rfl (SVs.imp_refl _) (fun _ => rfl) rfl rfl rfl (fun _ _ => SJ_dj ?_)) (OJ_M TT_ok rfl rfl rfl rfl rfl rfl (SJ_dj ?_))
    · refine DJ_onL TT_ok [5, 6, 7] rfl ?_
      refine DJ_one 6 rfl (by kernel_rfl) (OJ_M TT_ok rfl rfl rfl rfl rfl rfl (SJ_dj ?_))
      refine DJ_one 7 rfl (by kernel_rfl) (OJ_M TT_ok rfl rfl rfl rfl rfl rfl (SJ_dj ?_))
      exact DJ_endK key (by repeat (first | exact trivial | refine And.intro ⟨_, rfl, SV.imp_refl _⟩ ?_)) (by repeat (first | exact trivial | refine And.intro ⟨_, rfl, Ch.imp_refl _⟩ ?_))
    · skip
      refine DJ_C 4 (Con.sw 900 12 (cloneInt64_m m.cleared b3)) rfl rfl rfl (SVs.imp_refl _) (fun _ => rfl) rfl rfl rfl fun _ _ => ?_
      refine DJ_onL TT_ok [5, 7] rfl ?_
      refine DJ_one 7 rfl (by kernel_rfl) (OJ_M TT_ok rfl rfl rfl rfl rfl rfl (SJ_dj ?_))
      exact DJ_endK key (by repeat (first | exact trivial | refine And.intro ⟨_, rfl, SV.imp_refl _⟩ ?_)) (by repeat (first | exact trivial | refine And.intro ⟨_, rfl, Ch.imp_refl _⟩ ?_))
theorem l8Copy_m (c : GCluster) (hb : D.bds bigN (cCluster c)) : MkClus Tryz.prog 22 [vR (cCluster c)] c := by
  have b1 : c.places.length ≤ 1048576 := hb.2.2.1.1
  have b2 : c.machines.length ≤ 1048576 := hb.2.2.2.1.1
  have b3 : c.txs.length ≤ 1048576 := hb.2.2.2.2.1.1
  refine con_enter Tryz.func22 rfl rfl rfl fun B0 r_ D_ w0 => ?_
  refine T_auto1 TT_ok rfl ?_
  refine T_freeze 1 rfl rfl rfl rfl (fun _ => rfl) (fun _ => rfl) fun r_ => ?_
  refine T_auto TT_ok rfl ?_
  refine T_view (V_nilR 3 2 1 (fun i => cPlace (([] : List GPlace).getD i GPlace.z)) rfl rfl rfl) ?_
  refine T_view (V_nilR 3 3 4 (fun i => cMachine (([] : List GMachine).getD i GMachine.z)) rfl rfl rfl) ?_
  refine T_view (V_nilR 3 4 7 (fun i => cTx (([] : List GTx).getD i GTx.z)) rfl rfl rfl) ?_
  refine T_view (V_open 3 2 901 rfl rfl rfl rfl rfl rfl) ?_
  refine T_view (V_open 3 3 902 rfl rfl rfl rfl rfl rfl) ?_
  refine T_view (V_open 3 4 903 rfl rfl rfl rfl rfl rfl) ?_
  refine T_loopA (ι := Nat) (fun i => [(4, vI i)]) (fun i => [(901, arrC 1 cPlace GPlace.z (c.places.take i)), (3, .row [.v (.int .i64 c.config), .v (.int .i64 c.clock), .g 901, .g 902, .g 903, .v (.bool c.lost)])]) (fun i => i ≤ c.places.length) (fun i => c.places.length - i) 0 [901, 3] [901] rfl rfl (Nat.zero_le _) (by repeat (first | exact trivial | refine And.intro ⟨_, rfl, SV.imp_refl _⟩ ?_)) (by repeat (first | exact trivial | refine And.intro ⟨_, rfl, Ch.imp_refl _⟩ ?_)) ?_
  intro i h1
  refine T_auto TT_ok rfl ?_
  refine T_condD rfl (fun e => ?_) (fun e => ?_)
  · have hi : i < c.places.length := by omega
    have hl : (c.places.take i).length = i := by rw [List.length_take]; omega
    have hm : (c.places.getD i GPlace.z).machines.length ≤ 1048576 := (hb.2.2.1.2 i hi).1.1
    refine T_auto TT_ok rfl ?_
    refine T_drawL TT_ok [901] [0, 1, 3, 4, 5, 6, 7, 8, 2, 9, 10, 11, 12, 13, 14] rfl rfl fun B0 H0 => ?_
    refine DJ_one 2 rfl (by kernel_rfl) (OJ_bs TT_ok 23 (fun i => cInt (([] : List Int).getD i 0)) rfl rfl rfl rfl rfl rfl rfl (fun i hi => absurd hi (Nat.not_lt_zero _)) (mu1 := []) rfl rfl rfl (SJ_dj ?_))
    refine DJ_one 9 rfl (by kernel_rfl) (OJ_appC TT_ok 23 30 rfl rfl rfl rfl rfl rfl rfl rfl rfl rfl rfl rfl ⟨by simp; simp at hm; omega, by unfold maxL; simp at hm ⊢; omega⟩ (SJ_dj ?_))
    refine DJ_onL TT_ok [10, 11, 12, 13, 14] rfl ?_
    refine DJ_one 11 rfl (by kernel_rfl) (OJ_bs TT_ok 32 (fun _ => [.sl 1 _ _]) rfl rfl rfl rfl rfl rfl rfl (fun j hj => by rcases j with _ | j <;> first | rfl | omega) (mu1 := [(30, .arr 0 0 fun _ => [])]) rfl rfl rfl (SJ_dj ?_))
    refine DJ_one 12 rfl (by kernel_rfl) (OJ_appM TT_ok 901 32 33 rfl rfl rfl rfl rfl rfl rfl rfl rfl rfl rfl rfl ⟨by show ((c.places.take i).length + 1) * 24 ≤ _; omega, by unfold maxL; omega⟩ (SJ_dj ?_))
    refine DJ_onL TT_ok [13, 14] rfl ?_
    refine DJ_sw2 14 rfl (by kernel_rfl) (by kernel_rfl) (OJ_M TT_ok rfl rfl rfl rfl rfl rfl (SJ_sw [] fun B0 H0 => ?_))
    refine DJ_endA TT_ok rfl ?_
    refine X_view (V_sw 901 33) ?_
    exact X_inv (i + 1) hi (by omega) (by repeat (first | exact trivial | refine And.intro ⟨_, rfl, SV.imp_refl _⟩ ?_)) ⟨⟨_, rfl, imp_app1' (x := c.places.getD i GPlace.z) (take_succ_getD hi) (OwnI.sl (by simp) (fun i _ => appD_ge (Nat.zero_le _)) OwnI.e)⟩, (by repeat (first | exact trivial | refine And.intro ⟨_, rfl, Ch.imp_refl _⟩ ?_))⟩
  have hi : i = c.places.length := by omega
  subst hi
  rw [List.take_length]
  refine T_auto TT_ok rfl ?_
  refine T_loopA (ι := Nat) (fun i => [(5, vI i)]) (fun i => [(902, arrC 4 cMachine GMachine.z (c.machines.take i)), (3, .row [.v (.int .i64 c.config), .v (.int .i64 c.clock), .g 901, .g 902, .g 903, .v (.bool c.lost)])]) (fun i => i ≤ c.machines.length) (fun i => c.machines.length - i) 0 [902, 3] [902] rfl rfl (Nat.zero_le _) (by repeat (first | exact trivial | refine And.intro ⟨_, rfl, SV.imp_refl _⟩ ?_)) (by repeat (first | exact trivial | refine And.intro ⟨_, rfl, Ch.imp_refl _⟩ ?_)) ?_
  intro i h1
  refine T_auto TT_ok rfl ?_
  refine T_condD rfl (fun e => ?_) (fun e => ?_)
  · have hi : i < c.machines.length := by omega
    have hl : (c.machines.take i).length = i := by rw [List.length_take]; omega
    refine T_auto TT_ok rfl ?_
    refine T_drawL TT_ok [902] [0, 1, 2, 3, 4, 5, 6, 7, 8, 9, 10, 11] rfl rfl fun B0 H0 => ?_
    refine DJ_C 7 (Con.sw 901 491 (Con.sw 902 492 (Con.sw 903 493 (l6Copy_m (c.machines.getD i GMachine.z) (hb.2.2.2.1.2 i hi))))) rfl rfl rfl (SVs.imp_refl _) (fun _ => rfl) rfl rfl rfl fun _ _ => ?_
    refine DJ_one 8 rfl (by kernel_rfl) (OJ_bs TT_ok 50 (fun _ => cMachine (c.machines.getD i GMachine.z)) rfl rfl rfl rfl rfl rfl rfl (fun j hj => by rcases j with _ | j <;> first | rfl | omega) (mu1 := [(491, .arr 0 0 fun _ => []), (492, .arr 0 0 fun _ => []), (493, .arr 0 0 fun _ => [])]) rfl rfl rfl (SJ_dj ?_))
    refine DJ_one 9 rfl (by kernel_rfl) (OJ_appM TT_ok 902 50 51 rfl rfl rfl rfl rfl rfl rfl rfl rfl rfl rfl rfl ⟨by show ((c.machines.take i).length + 1) * 80 ≤ _; omega, by unfold maxL; omega⟩ (SJ_dj ?_))
    refine DJ_onL TT_ok [10, 11] rfl ?_
    refine DJ_sw2 11 rfl (by kernel_rfl) (by kernel_rfl) (OJ_M TT_ok rfl rfl rfl rfl rfl rfl (SJ_sw [] fun B0 H0 => ?_))
    refine DJ_endA TT_ok rfl ?_
    refine X_view (V_sw 902 51) ?_
    exact X_inv (i + 1) hi (by omega) (by repeat (first | exact trivial | refine And.intro ⟨_, rfl, SV.imp_refl _⟩ ?_)) ⟨⟨_, rfl, imp_app1 (x := c.machines.getD i GMachine.z) (take_succ_getD hi) rfl⟩, (by repeat (first | exact trivial | refine And.intro ⟨_, rfl, Ch.imp_refl _⟩ ?_))⟩
  have hi : i = c.machines.length := by omega
  subst hi
  rw [List.take_length]
  refine T_auto TT_ok rfl ?_
  refine T_loopA (ι := Nat) (fun i => [(6, vI i)]) (fun i => [(903, arrC 7 cTx GTx.z (c.txs.take i)), (3, .row [.v (.int .i64 c.config), .v (.int .i64 c.clock), .g 901, .g 902, .g 903, .v (.bool c.lost)])]) (fun i => i ≤ c.txs.length) (fun i => c.txs.length - i) 0 [903, 3] [903] rfl rfl (Nat.zero_le _) (by repeat (first | exact trivial | refine And.intro ⟨_, rfl, SV.imp_refl _⟩ ?_)) (by repeat (first | exact trivial | refine And.intro ⟨_, rfl, Ch.imp_refl _⟩ ?_)) ?_
  intro i h1
  refine T_auto TT_ok rfl ?_
  refine T_condD rfl (fun e => ?_) (fun e => ?_)
  · have hi : i < c.txs.length := by omega
    have hl : (c.txs.take i).length = i := by rw [List.length_take]; omega
    have ht := hb.2.2.2.2.1.2 i hi
    refine T_auto TT_ok rfl ?_
    refine T_drawL TT_ok [903] [0, 1, 2, 3, 4, 5, 6, 7, 8, 9, 10, 11] rfl rfl fun B0 H0 => ?_
    refine DJ_C 7 (Con.sw 901 671 (Con.sw 902 672 (l7Copy_m (c.txs.getD i GTx.z) ht.2.2.2.2.1.1 ht.2.2.2.2.2.1.1))) rfl rfl rfl (SVs.imp_refl _) (fun _ => rfl) rfl rfl rfl fun _ _ => ?_
    refine DJ_one 8 rfl (by kernel_rfl) (OJ_bs TT_ok 68 (fun _ => cTx (c.txs.getD i GTx.z)) rfl rfl rfl rfl rfl rfl rfl (fun j hj => by rcases j with _ | j <;> first | rfl | omega) (mu1 := [(671, .arr 0 0 fun _ => []), (672, .arr 0 0 fun _ => [])]) rfl rfl rfl (SJ_dj ?_))
    refine DJ_one 9 rfl (by kernel_rfl) (OJ_appM TT_ok 903 68 69 rfl rfl rfl rfl rfl rfl rfl rfl rfl rfl rfl rfl ⟨by show ((c.txs.take i).length + 1) * 88 ≤ _; omega, by unfold maxL; omega⟩ (SJ_dj ?_))
    refine DJ_onL TT_ok [10, 11] rfl ?_
    refine DJ_sw2 11 rfl (by kernel_rfl) (by kernel_rfl) (OJ_M TT_ok rfl rfl rfl rfl rfl rfl (SJ_sw [] fun B0 H0 => ?_))
    refine DJ_endA TT_ok rfl ?_
    refine X_view (V_sw 903 69) ?_
    exact X_inv (i + 1) hi (by omega) (by repeat (first | exact trivial | refine And.intro ⟨_, rfl, SV.imp_refl _⟩ ?_)) ⟨⟨_, rfl, imp_app1 (x := c.txs.getD i GTx.z) (take_succ_getD hi) rfl⟩, (by repeat (first | exact trivial | refine And.intro ⟨_, rfl, Ch.imp_refl _⟩ ?_))⟩
  have hi : i = c.txs.length := by omega
  subst hi
  rw [List.take_length]
  refine T_auto TT_ok rfl ?_
  refine T_ret TT_ok (()) [(2, some 32)] rfl rfl ?_ ?_ ?_
  · exact SVs.imp_refl _
  · exact ⟨⟨_, rfl, Ch.imp_refl _⟩, ⟨_, rfl, Ch.imp_refl _⟩, ⟨_, rfl, Ch.imp_refl _⟩, trivial⟩
  · trivial
theorem cloneCluster_m (c : GCluster) (hb : D.bds bigN (cCluster c)) : MkClus Tryz.prog 28 [vR (cCluster c)] c := by
  have b1 : c.places.length ≤ 1048576 := hb.2.2.1.1
  have b2 : c.machines.length ≤ 1048576 := hb.2.2.2.1.1
  have b3 : c.txs.length ≤ 1048576 := hb.2.2.2.2.1.1
  refine con_enter Tryz.func28 rfl rfl rfl fun B0 r_ D_ w0 => ?_
  refine T_auto1 TT_ok rfl ?_
  refine T_freeze 1 rfl rfl rfl rfl (fun _ => rfl) (fun _ => rfl) fun r_ => ?_
  refine T_auto TT_ok rfl ?_
  refine T_view (V_nilR 3 2 1 (fun i => cPlace (([] : List GPlace).getD i GPlace.z)) rfl rfl rfl) ?_
  refine T_view (V_nilR 3 3 4 (fun i => cMachine (([] : List GMachine).getD i GMachine.z)) rfl rfl rfl) ?_
  refine T_view (V_nilR 3 4 7 (fun i => cTx (([] : List GTx).getD i GTx.z)) rfl rfl rfl) ?_
  refine T_view (V_open 3 2 901 rfl rfl rfl rfl rfl rfl) ?_
  refine T_view (V_open 3 3 902 rfl rfl rfl rfl rfl rfl) ?_
  refine T_view (V_open 3 4 903 rfl rfl rfl rfl rfl rfl) ?_
  refine T_loopA (ι := Nat) (fun i => [(17, vI i)]) (fun i => [(901, arrC 1 cPlace GPlace.z (c.places.take i)), (3, .row [.v (.int .i64 c.config), .v (.int .i64 c.clock), .g 901, .g 902, .g 903, .v (.bool c.lost)])]) (fun i => i ≤ c.places.length) (fun i => c.places.length - i) 0 [901, 3] [901] rfl rfl (Nat.zero_le _) (by repeat (first | exact trivial | refine And.intro ⟨_, rfl, SV.imp_refl _⟩ ?_)) (by repeat (first | exact trivial | refine And.intro ⟨_, rfl, Ch.imp_refl _⟩ ?_)) ?_
  intro i h1
  refine T_auto TT_ok rfl ?_
  refine T_condD rfl (fun e => ?_) (fun e => ?_)
  · have hi : i < c.places.length := by omega
    have hl : (c.places.take i).length = i := by rw [List.length_take]; omega
    have hm : (c.places.getD i GPlace.z).machines.length ≤ 1048576 := (hb.2.2.1.2 i hi).1.1
    refine T_auto TT_ok rfl ?_
    refine T_drawL TT_ok [901] [0, 1, 2, 3, 4, 5, 6, 7, 8, 9] rfl rfl fun B0 H0 => ?_
    refine DJ_C 4 (Con.sw 900 25 (cloneInt64_m (c.places.getD i GPlace.z).machines hm)) rfl rfl rfl (SVs.imp_refl _) (fun _ => rfl) rfl rfl rfl fun _ _ => ?_
    refine DJ_onL TT_ok [5, 6, 7, 8, 9] rfl ?_
    refine DJ_one 6 rfl (by kernel_rfl) (OJ_bs TT_ok 27 (fun _ => cPlace (c.places.getD i GPlace.z)) rfl rfl rfl rfl rfl rfl rfl (fun j hj => by rcases j with _ | j <;> first | rfl | omega) (mu1 := [(25, .arr 0 0 fun _ => [])]) rfl rfl rfl (SJ_dj ?_))
    refine DJ_one 7 rfl (by kernel_rfl) (OJ_appM TT_ok 901 27 28 rfl rfl rfl rfl rfl rfl rfl rfl rfl rfl rfl rfl ⟨by show ((c.places.take i).length + 1) * 24 ≤ _; omega, by unfold maxL; omega⟩ (SJ_dj ?_))
    refine DJ_onL TT_ok [8, 9] rfl ?_
    refine DJ_sw2 9 rfl (by kernel_rfl) (by kernel_rfl) (OJ_M TT_ok rfl rfl rfl rfl rfl rfl (SJ_sw [] fun B0 H0 => ?_))
    refine DJ_endA TT_ok rfl ?_
    refine X_view (V_sw 901 28) ?_
    exact X_inv (i + 1) hi (by omega) (by repeat (first | exact trivial | refine And.intro ⟨_, rfl, SV.imp_refl _⟩ ?_)) ⟨⟨_, rfl, imp_app1 (x := c.places.getD i GPlace.z) (take_succ_getD hi) rfl⟩, (by repeat (first | exact trivial | refine And.intro ⟨_, rfl, Ch.imp_refl _⟩ ?_))⟩
  have hi : i = c.places.length := by omega
  subst hi
  rw [List.take_length]
  refine T_auto TT_ok rfl ?_
  refine T_loopA (ι := Nat) (fun i => [(34, vI i)]) (fun i => [(902, arrC 4 cMachine GMachine.z (c.machines.take i)), (3, .row [.v (.int .i64 c.config), .v (.int .i64 c.clock), .g 901, .g 902, .g 903, .v (.bool c.lost)])]) (fun i => i ≤ c.machines.length) (fun i => c.machines.length - i) 0 [902, 3] [902] rfl rfl (Nat.zero_le _) (by repeat (first | exact trivial | refine And.intro ⟨_, rfl, SV.imp_refl _⟩ ?_)) (by repeat (first | exact trivial | refine And.intro ⟨_, rfl, Ch.imp_refl _⟩ ?_)) ?_
  intro i h1
  refine T_auto TT_ok rfl ?_
  refine T_condD rfl (fun e => ?_) (fun e => ?_)
  · have hi : i < c.machines.length := by omega
    have hl : (c.machines.take i).length = i := by rw [List.length_take]; omega
    refine T_auto TT_ok rfl ?_
    refine T_drawL TT_ok [902] [0, 1, 2, 3, 4, 5, 6, 7] rfl rfl fun B0 H0 => ?_
    refine DJ_C 3 (Con.sw 901 411 (Con.sw 902 412 (Con.sw 903 413 (cloneMachine_m (c.machines.getD i GMachine.z) (hb.2.2.2.1.2 i hi))))) rfl rfl rfl (SVs.imp_refl _) (fun _ => rfl) rfl rfl rfl fun _ _ => ?_
    refine DJ_one 4 rfl (by kernel_rfl) (OJ_bs TT_ok 42 (fun _ => cMachine (c.machines.getD i GMachine.z)) rfl rfl rfl rfl rfl rfl rfl (fun j hj => by rcases j with _ | j <;> first | rfl | omega) (mu1 := [(411, .arr 0 0 fun _ => []), (412, .arr 0 0 fun _ => []), (413, .arr 0 0 fun _ => [])]) rfl rfl rfl (SJ_dj ?_))
    refine DJ_one 5 rfl (by kernel_rfl) (OJ_appM TT_ok 902 42 43 rfl rfl rfl rfl rfl rfl rfl rfl rfl rfl rfl rfl ⟨by show ((c.machines.take i).length + 1) * 80 ≤ _; omega, by unfold maxL; omega⟩ (SJ_dj ?_))
    refine DJ_onL TT_ok [6, 7] rfl ?_
    refine DJ_sw2 7 rfl (by kernel_rfl) (by kernel_rfl) (OJ_M TT_ok rfl rfl rfl rfl rfl rfl (SJ_sw [] fun B0 H0 => ?_))
    refine DJ_endA TT_ok rfl ?_
    refine X_view (V_sw 902 43) ?_
    exact X_inv (i + 1) hi (by omega) (by repeat (first | exact trivial | refine And.intro ⟨_, rfl, SV.imp_refl _⟩ ?_)) ⟨⟨_, rfl, imp_app1 (x := c.machines.getD i GMachine.z) (take_succ_getD hi) rfl⟩, (by repeat (first | exact trivial | refine And.intro ⟨_, rfl, Ch.imp_refl _⟩ ?_))⟩
  have hi : i = c.machines.length := by omega
  subst hi
  rw [List.take_length]
  refine T_auto TT_ok rfl ?_
  refine T_loopA (ι := Nat) (fun i => [(49, vI i)]) (fun i => [(903, arrC 7 cTx GTx.z (c.txs.take i)), (3, .row [.v (.int .i64 c.config), .v (.int .i64 c.clock), .g 901, .g 902, .g 903, .v (.bool c.lost)])]) (fun i => i ≤ c.txs.length) (fun i => c.txs.length - i) 0 [903, 3] [903] rfl rfl (Nat.zero_le _) (by repeat (first | exact trivial | refine And.intro ⟨_, rfl, SV.imp_refl _⟩ ?_)) (by repeat (first | exact trivial | refine And.intro ⟨_, rfl, Ch.imp_refl _⟩ ?_)) ?_
  intro i h1
  refine T_auto TT_ok rfl ?_
  refine T_condD rfl (fun e => ?_) (fun e => ?_)
  · have hi : i < c.txs.length := by omega
    have hl : (c.txs.take i).length = i := by rw [List.length_take]; omega
    have ht := hb.2.2.2.2.1.2 i hi
    refine T_auto TT_ok rfl ?_
    refine T_drawL TT_ok [903] [0, 1, 2, 3, 4, 5, 6, 7] rfl rfl fun B0 H0 => ?_
    refine DJ_C 3 (Con.sw 901 561 (Con.sw 902 562 (cloneTx_m (c.txs.getD i GTx.z) ht.2.2.2.2.1.1 ht.2.2.2.2.2.1.1))) rfl rfl rfl (SVs.imp_refl _) (fun _ => rfl) rfl rfl rfl fun _ _ => ?_
    refine DJ_one 4 rfl (by kernel_rfl) (OJ_bs TT_ok 57 (fun _ => cTx (c.txs.getD i GTx.z)) rfl rfl rfl rfl rfl rfl rfl (fun j hj => by rcases j with _ | j <;> first | rfl | omega) (mu1 := [(561, .arr 0 0 fun _ => []), (562, .arr 0 0 fun _ => [])]) rfl rfl rfl (SJ_dj ?_))
    refine DJ_one 5 rfl (by kernel_rfl) (OJ_appM TT_ok 903 57 58 rfl rfl rfl rfl rfl rfl rfl rfl rfl rfl rfl rfl ⟨by show ((c.txs.take i).length + 1) * 88 ≤ _; omega, by unfold maxL; omega⟩ (SJ_dj ?_))
    refine DJ_onL TT_ok [6, 7] rfl ?_
    refine DJ_sw2 7 rfl (by kernel_rfl) (by kernel_rfl) (OJ_M TT_ok rfl rfl rfl rfl rfl rfl (SJ_sw [] fun B0 H0 => ?_))
    refine DJ_endA TT_ok rfl ?_
    refine X_view (V_sw 903 58) ?_
    exact X_inv (i + 1) hi (by omega) (by repeat (first | exact trivial | refine And.intro ⟨_, rfl, SV.imp_refl _⟩ ?_)) ⟨⟨_, rfl, imp_app1 (x := c.txs.getD i GTx.z) (take_succ_getD hi) rfl⟩, (by repeat (first | exact trivial | refine And.intro ⟨_, rfl, Ch.imp_refl _⟩ ?_))⟩
  have hi : i = c.txs.length := by omega
  subst hi
  rw [List.take_length]
  refine T_auto TT_ok rfl ?_
  refine T_ret TT_ok (()) [(2, some 32)] rfl rfl ?_ ?_ ?_
  · exact SVs.imp_refl _
  · exact ⟨⟨_, rfl, Ch.imp_refl _⟩, ⟨_, rfl, Ch.imp_refl _⟩, ⟨_, rfl, Ch.imp_refl _⟩, trivial⟩
  · trivial
end Go.Proofs.YtcikaknfogpeeaaGreat
