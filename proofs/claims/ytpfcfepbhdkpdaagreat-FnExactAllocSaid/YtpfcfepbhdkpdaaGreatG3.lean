
/-
  The laws' helpers, at kinds that hold slices, and at slices of them.
-/
import Derived.Test.YtpfcfepbhdkpdaaGreatP9
namespace Go.Proofs.YtpfcfepbhdkpdaaGreat
open Go Go.RowKit
set_option linter.unusedVariables false
set_option linter.unusedSimpArgs false
set_option maxRecDepth 4000

/-- its parts are own arrays -/
abbrev agPlaceG (x : GPlace) (k1 : Nat) : SV := .ag [.g k1]
theorem szPlace_g (x : GPlace) (hb : D.bds maxL (cPlace x)) (l : Int) (h1 : 0 ≤ l) (h2 : l ≤ 1048576) : Ans Tryz.prog 60 [] [vR (cPlace x), vI l] [] (vI (szI l (wPlace x))) := by
  unfold wPlace
  refine con_enter Tryz.func60 rfl rfl rfl fun B0 r_ D_ w0 => ?_
  refine T_auto TT_ok rfl ?_
  refine RJ_Q TT_ok (szInt64S_q _ hb.1.1 _ h1 h2) rfl rfl rfl rfl rfl ?_
  refine T_condD rfl (fun e1 => ?_) (fun e1 => ?_)
  · refine T_auto TT_ok rfl ?_
    exact T_ansI TT_ok [(4, none)] rfl rfl (by exact (szI_mono e1 (by omega)).symm)
  have e1r := e1
  refine T_auto TT_ok rfl ?_
  exact T_ansI TT_ok [(4, none)] rfl rfl (rfl)
theorem toPlace_g (x : GPlace) (hb : D.bds bigN (cPlace x)) : Con Tryz.prog 67 [] [vR (cPlace x)] [] (fun _ : Unit => True) (fun _ => [agPlaceG x 901]) fun _ => [(901, arrC 1 cInt 0 x.machines)] := by
  refine con_enter Tryz.func67 rfl rfl rfl fun B0 r_ D_ w0 => ?_
  refine T_auto TT_ok rfl ?_
  refine RJ_C TT_ok (Con.sw 900 901 (toInt64S_m x.machines hb.1.1)) rfl rfl (SVs.imp_refl _) (fun _ => rfl) rfl rfl rfl fun _ _ => ?_
  refine RJ_auto TT_ok rfl ?_
  refine T_ret TT_ok (()) [(2, some 117)] rfl rfl ?_ ?_ ?_
  · exact SVs.imp_refl _
  · exact ⟨⟨_, rfl, Ch.imp_refl _⟩, trivial⟩
  · trivial
theorem eqPlace_g (x : GPlace) (hb : D.bds bigN (cPlace x)) : Ans Tryz.prog 88 [] [vR (cPlace x), vR (cPlace x)] [] (vB true) := by
  refine con_enter Tryz.func88 rfl rfl rfl fun B0 r_ D_ w0 => ?_
  refine T_auto TT_ok rfl ?_
  refine RJ_Q TT_ok (eqInt64S_q _ hb.1.1) rfl rfl rfl rfl rfl ?_
  refine T_cond rfl (fun e => by cases e) (fun _ => ?_)
  refine T_auto TT_ok rfl ?_
  exact T_ansB TT_ok [(4, none)] rfl rfl (rfl)
theorem szPlaceS_q (xs : List GPlace) (hb : D.bd maxL (dL 1 cPlace GPlace.z xs)) (l : Int) (h1 : 0 ≤ l) (h2 : l ≤ 1048576) : Ans Tryz.prog 23 [] [vL 1 cPlace GPlace.z xs, vI l] [] (vI (szI l (wL wPlace xs))) := by
  have hx : xs.length ≤ maxL := hb.1
  unfold maxL at hx
  unfold wL
  refine con_enter Tryz.func23 rfl rfl rfl fun B0 r_ D_ w0 => ?_
  refine T_auto TT_ok rfl ?_
  refine T_condD rfl (fun e => ?_) (fun e => ?_)
  · refine T_auto TT_ok rfl ?_
    exact T_ansI TT_ok [(4, none)] rfl rfl ((szI_mono (szI_no e) (Nat.le_add_right _ _)).symm)
  refine T_auto TT_ok rfl ?_
  refine T_loopA (ι := Nat) (fun i => [(5, vI i), (1, vI (l - xs.length - (sumW wPlace (xs.take i) : Nat)))]) (fun _ => []) (fun i => i ≤ xs.length ∧ 0 ≤ l - xs.length - (sumW wPlace (xs.take i) : Nat)) (fun i => xs.length - i) 0 [] [] rfl rfl ⟨Nat.zero_le _, by simp [sumW]; omega⟩ ⟨⟨_, rfl, SV.imp_refl _⟩, ⟨_, rfl, SV.imp_of (vI_eq (by simp [sumW]))⟩, trivial⟩ (by repeat (first | exact trivial | refine And.intro ⟨_, rfl, Ch.imp_refl _⟩ ?_)) ?_
  intro i ⟨h3, h4⟩
  refine T_auto TT_ok rfl ?_
  refine T_condD rfl (fun e2 => ?_) (fun e2 => ?_)
  · have hi : i < xs.length := by omega
    have hs := sumW_take (w := wPlace) (z := GPlace.z) hi
    have hs2 := sumW_take_le (w := wPlace) xs (i + 1)
    refine T_auto TT_ok rfl ?_
    refine RJ_Q TT_ok (szPlace_g _ (hb.2 i hi) _ h4 (by omega)) rfl rfl rfl rfl rfl ?_
    refine T_condD rfl (fun e3 => ?_) (fun e3 => ?_)
    · have h5 := szI_neg.1 e3
      refine T_auto TT_ok rfl ?_
      exact T_ansI TT_ok [(4, none)] rfl rfl ((szI_mono (szI_neg.2 (by omega)) (Nat.le_refl _)).symm)
    · have h5 := szI_in e3
      refine T_auto TT_ok rfl ?_
      exact X_inv (i + 1) ⟨hi, by omega⟩ (by omega) ⟨⟨_, rfl, SV.imp_refl _⟩, ⟨_, rfl, SV.imp_of (vI_eq (by omega))⟩, (by repeat (first | exact trivial | refine And.intro ⟨_, rfl, SV.imp_refl _⟩ ?_))⟩ (by repeat (first | exact trivial | refine And.intro ⟨_, rfl, Ch.imp_refl _⟩ ?_))
  · have hi : i = xs.length := by omega
    subst hi
    rw [List.take_length] at h4 ⊢
    refine T_auto TT_ok rfl ?_
    exact T_ansI TT_ok [(4, none)] rfl rfl (by rw [szI_yes (by omega)]; omega)
theorem eqPlaceS_q (xs : List GPlace) (hb : D.bd bigN (dL 1 cPlace GPlace.z xs)) : Ans Tryz.prog 35 [] [vL 1 cPlace GPlace.z xs, vL 1 cPlace GPlace.z xs] [] (vB true) := by
  have hl : xs.length ≤ 1048576 := hb.1
  refine con_enter Tryz.func35 rfl rfl rfl fun B0 r_ D_ w0 => ?_
  refine T_auto TT_ok rfl ?_
  refine T_condN rfl (fun e => absurd rfl e) (fun _ => ?_)
  refine T_auto TT_ok rfl ?_
  refine T_loopA (ι := Nat) (fun i => [(5, vI i)]) (fun _ => []) (fun i => i ≤ xs.length) (fun i => xs.length - i) 0 [] [] rfl rfl (Nat.zero_le _) (by repeat (first | exact trivial | refine And.intro ⟨_, rfl, SV.imp_refl _⟩ ?_)) (by repeat (first | exact trivial | refine And.intro ⟨_, rfl, Ch.imp_refl _⟩ ?_)) ?_
  intro i h1
  refine T_auto TT_ok rfl ?_
  refine T_condD rfl (fun e => ?_) (fun e => ?_)
  · have hi : i < xs.length := by omega
    refine T_auto TT_ok rfl ?_
    refine T_drawA TT_ok [] rfl rfl fun B0 H0 => ?_
    refine DJ_Q TT_ok (eqPlace_g _ (hb.2 i hi)) rfl rfl rfl rfl rfl rfl ?_
    refine DJ_endA TT_ok rfl ?_
    refine T_cond rfl (fun e => by cases e) (fun _ => ?_)
    refine T_auto TT_ok rfl ?_
    exact X_inv (i + 1) hi (by omega) (by repeat (first | exact trivial | refine And.intro ⟨_, rfl, SV.imp_refl _⟩ ?_)) (by repeat (first | exact trivial | refine And.intro ⟨_, rfl, Ch.imp_refl _⟩ ?_))
  · refine T_auto TT_ok rfl ?_
    exact T_ansB TT_ok [(4, none)] rfl rfl (rfl)
theorem toPlaceS_m (xs : List GPlace) (hb : D.bd bigN (dL 1 cPlace GPlace.z xs)) : MkL Tryz.prog 29 [vL 1 cPlace GPlace.z xs] 1 cPlace GPlace.z xs := by
  have hl : xs.length ≤ 1048576 := hb.1
  refine con_enter Tryz.func29 rfl rfl rfl fun B0 r_ D_ w0 => ?_
  refine T_auto TT_ok rfl ?_
  refine RJ_make TT_ok 7 xs.length rfl rfl rfl rfl rfl rfl rfl ⟨by simp; omega, by unfold maxL; omega⟩ ?_
  refine RJ_auto TT_ok rfl ?_
  refine T_loopA (ι := Nat) (fun i => [(4, vI i)]) (fun i => [(7, .arr 1 xs.length fun k => cPlace (if k < i then xs.getD k GPlace.z else GPlace.z))]) (fun i => i ≤ xs.length) (fun i => xs.length - i) 0 [7] [] rfl rfl (Nat.zero_le _) (by repeat (first | exact trivial | refine And.intro ⟨_, rfl, SV.imp_refl _⟩ ?_)) ⟨⟨_, rfl, Ch.imp_own rfl fun k hk => by rw [if_neg (Nat.not_lt_zero _)]; exact OwnI.n OwnI.e⟩, trivial⟩ ?_
  intro i h1
  refine T_auto TT_ok rfl ?_
  refine T_condD rfl (fun e => ?_) (fun e => ?_)
  · have hi : i < xs.length := by omega
    refine T_auto TT_ok rfl ?_
    refine RJ_C TT_ok (Con.sw 901 2901 (toPlace_g _ (hb.2 i hi))) rfl rfl (SVs.imp_refl _) (fun _ => rfl) rfl rfl rfl fun _ _ => ?_
    refine RJ_auto TT_ok rfl ?_
    refine RJ_view (V_carve 7 i 7000 (l := [.s .o 1 0 fun i => cInt (([] : List Int).getD i 0)]) rfl (by rw [if_neg (by omega : ¬ ((i : Int)).toNat < i)]; rfl) rfl rfl rfl rfl ⟨by omega, by omega⟩) ?_
    refine RJ_view (V_pe 21 rfl rfl rfl) ?_
    refine RJ_auto TT_ok rfl ?_
    refine X_view (V_fold 7000 0 2901 rfl rfl rfl rfl rfl rfl rfl) ?_
    refine X_view (V_uncarve 7 7000 rfl rfl rfl rfl rfl rfl rfl) ?_
    exact X_inv (i + 1) hi (by omega) (by repeat (first | exact trivial | refine And.intro ⟨_, rfl, SV.imp_refl _⟩ ?_)) ⟨⟨_, rfl, Ch.imp_arr fun k hk => fill_step (fun x => cPlace x) rfl⟩, (by repeat (first | exact trivial | refine And.intro ⟨_, rfl, Ch.imp_refl _⟩ ?_))⟩
  · have hi : i = xs.length := by omega
    subst hi
    refine T_auto TT_ok rfl ?_
    refine T_view (V_sw 7 900) ?_
    refine T_ret TT_ok (()) [(2, none)] rfl rfl ?_ ?_ ?_
    · exact SVs.imp_refl _
    · exact ⟨⟨_, rfl, Ch.imp_arr fun k hk => by rw [if_pos hk]⟩, trivial⟩
    · trivial
theorem mPlace_eq (x : GPlace) : mPlace x = 0+(x.machines.length) := by unfold mPlace; omega
theorem markPlaceS_w (xs : List GPlace) (hb : D.bd bigN (dL 1 cPlace GPlace.z xs)) (k0 : Int) (h1 : 0 ≤ k0) (h2 : k0 + (sumW mPlace xs : Nat) ≤ 1000000000000) : Con Tryz.prog 38 [900] [.a (.g 900), vI k0] [(900, arrC 1 cPlace GPlace.z xs)] (fun _ : Unit => True) (fun _ => [vI (k0 + (sumW mPlace xs : Nat))]) fun _ => [(900, arrC 1 cPlace GPlace.z (mkL mkPlace mPlace GPlace.z xs k0))] := by
  have hl : xs.length ≤ 1048576 := hb.1
  refine con_enter Tryz.func38 rfl rfl rfl fun B0 r_ D_ w0 => ?_
  refine T_auto TT_ok rfl ?_
  refine T_loopA (ι := Nat) (fun i => [(5, vI i), (1, vI (k0 + (sumW mPlace (xs.take i) : Nat)))]) (fun i => [(900, .arr 1 xs.length fun j => cPlace (if j < i then mkPlace (xs.getD j GPlace.z) (k0 + (sumW mPlace (xs.take j) : Nat)) else xs.getD j GPlace.z))]) (fun i => i ≤ xs.length) (fun i => xs.length - i) 0 [900] [] rfl rfl (Nat.zero_le _) ⟨⟨_, rfl, SV.imp_refl _⟩, ⟨_, rfl, SV.imp_of (vI_eq (by simp [sumW]))⟩, trivial⟩ ⟨⟨_, rfl, Ch.imp_arr fun k hk => by rw [if_neg (Nat.not_lt_zero _)]⟩, trivial⟩ ?_
  intro i h3
  refine T_auto TT_ok rfl ?_
  refine T_condD rfl (fun e => ?_) (fun e => ?_)
  · have hi : i < xs.length := by omega
    have hs := sumW_take (w := mPlace) (z := GPlace.z) hi
    have hs2 := sumW_take_le (w := mPlace) xs (i + 1)
    have hm := mPlace_eq (xs.getD i GPlace.z)
    have ht : sumW mPlace (xs.take ((i : Int)).toNat) = sumW mPlace (xs.take i) := rfl
    refine T_view (V_carve 900 i 7000 (l := [.s .o 1 (xs.getD i GPlace.z).machines.length fun j => cInt ((xs.getD i GPlace.z).machines.getD j 0)]) rfl (by rw [if_neg (by omega : ¬ ((i : Int)).toNat < i)]; rfl) rfl rfl rfl rfl ⟨by omega, by omega⟩) ?_
    refine T_view (V_open 7000 0 7001 rfl rfl rfl rfl rfl rfl) ?_
    refine T_auto TT_ok rfl ?_
    refine RJ_view (V_pe 15 rfl rfl rfl) ?_
    refine RJ_auto TT_ok rfl ?_
    refine RJ_C TT_ok (Con.sw 900 7001 (markInt64S_w (xs.getD i GPlace.z).machines (hb.2 i hi).1.1 _ (by omega) (by omega))) rfl rfl (SVs.imp_refl _) (fun _ => rfl) rfl rfl rfl fun _ _ => ?_
    refine RJ_auto TT_ok rfl ?_
    refine X_view (V_fold 7000 0 7001 rfl rfl rfl rfl rfl rfl rfl) ?_
    refine X_view (V_uncarve 900 7000 rfl rfl rfl rfl rfl rfl rfl) ?_
    exact X_inv (i + 1) hi (by omega) ⟨⟨_, rfl, SV.imp_refl _⟩, ⟨_, rfl, SV.imp_of (vI_eq (by omega))⟩, (by repeat (first | exact trivial | refine And.intro ⟨_, rfl, SV.imp_refl _⟩ ?_))⟩ ⟨⟨_, rfl, Ch.imp_arr fun k hk => fill_step2 (i := i) (k := k) (fun x => cPlace x) (fun j => mkPlace (xs.getD j GPlace.z) (k0 + (sumW mPlace (xs.take j) : Nat))) (o := fun j => xs.getD j GPlace.z) (by rfl)⟩, (by repeat (first | exact trivial | refine And.intro ⟨_, rfl, Ch.imp_refl _⟩ ?_))⟩
  · have hi : i = xs.length := by omega
    subst hi
    rw [List.take_length]
    refine T_auto TT_ok rfl ?_
    refine T_ret TT_ok (()) [(4, none)] rfl rfl ?_ ?_ ?_
    · exact SVs.imp_refl _
    · exact ⟨⟨_, rfl, Ch.imp_len (tab_length _ _).symm fun k hk => by rw [if_pos hk, mkL, tab_getD hk]⟩, trivial⟩
    · trivial
theorem heldPlaceS_w (xs : List GPlace) (hb : D.bd bigN (dL 1 cPlace GPlace.z xs)) (k0 : Int) (h1 : 0 ≤ k0) (h2 : k0 + (sumW mPlace xs : Nat) ≤ 1000000000000) : Ans Tryz.prog 41 [] [vL 1 cPlace GPlace.z (mkL mkPlace mPlace GPlace.z xs k0), vI k0] [] (vI (k0 + (sumW mPlace xs : Nat))) := by
  have hl : xs.length ≤ 1048576 := hb.1
  refine Con.wkA (args := [.a (.s .r 1 xs.length fun j => cPlace (mkPlace (xs.getD j GPlace.z) (k0 + (sumW mPlace (xs.take j) : Nat)))), vI k0]) ?_ ⟨_, _, rfl, imp_untabS, SVs.imp_refl _⟩
  refine con_enter Tryz.func41 rfl rfl rfl fun B0 r_ D_ w0 => ?_
  refine T_auto TT_ok rfl ?_
  refine T_loopA (ι := Nat) (fun i => [(5, vI i), (1, vI (k0 + (sumW mPlace (xs.take i) : Nat)))]) (fun _ => []) (fun i => i ≤ xs.length) (fun i => xs.length - i) 0 [] [] rfl rfl (Nat.zero_le _) ⟨⟨_, rfl, SV.imp_refl _⟩, ⟨_, rfl, SV.imp_of (vI_eq (by simp [sumW]))⟩, trivial⟩ (by repeat (first | exact trivial | refine And.intro ⟨_, rfl, Ch.imp_refl _⟩ ?_)) ?_
  intro i h3
  refine T_auto TT_ok rfl ?_
  refine T_condD rfl (fun e => ?_) (fun e => ?_)
  · have hi : i < xs.length := by omega
    have hs := sumW_take (w := mPlace) (z := GPlace.z) hi
    have hs2 := sumW_take_le (w := mPlace) xs (i + 1)
    have hm := mPlace_eq (xs.getD i GPlace.z)
    have ht : sumW mPlace (xs.take ((i : Int)).toNat) = sumW mPlace (xs.take i) := rfl
    refine T_auto TT_ok rfl ?_
    refine RJ_Q TT_ok (heldInt64S_w (xs.getD i GPlace.z).machines (hb.2 i hi).1.1 _ (by (try simp only [Int.toNat_natCast] at *); omega) (by (try simp only [Int.toNat_natCast] at *); omega)) rfl rfl rfl rfl rfl ?_
    refine T_condD rfl (fun e => by (try simp only [Int.toNat_natCast] at *); omega) (fun _ => ?_)
    refine T_auto TT_ok rfl ?_
    exact X_inv (i + 1) hi (by omega) ⟨⟨_, rfl, SV.imp_refl _⟩, ⟨_, rfl, SV.imp_of (vI_eq (by (try simp only [Int.toNat_natCast] at *); omega))⟩, (by repeat (first | exact trivial | refine And.intro ⟨_, rfl, SV.imp_refl _⟩ ?_))⟩ (by repeat (first | exact trivial | refine And.intro ⟨_, rfl, Ch.imp_refl _⟩ ?_))
  · have hi : i = xs.length := by omega
    subst hi
    rw [List.take_length]
    refine T_auto TT_ok rfl ?_
    exact T_ansI TT_ok [(4, none)] rfl rfl (rfl)
/-- its parts are own arrays -/
abbrev agRecordG (x : GRecord) (k1 : Nat) : SV := .ag [.v (.int .i64 x.kind), .v (.int .i64 x.tx), .v (.int .i64 x.region), .g k1]
theorem szRecord_g (x : GRecord) (hb : D.bds maxL (cRecord x)) (l : Int) (h1 : 0 ≤ l) (h2 : l ≤ 1048576) : Ans Tryz.prog 171 [] [vR (cRecord x), vI l] [] (vI (szI l (wRecord x))) := by
  unfold wRecord
  refine con_enter Tryz.func171 rfl rfl rfl fun B0 r_ D_ w0 => ?_
  refine T_auto TT_ok rfl ?_
  refine RJ_Q TT_ok (szSetS_q _ hb.2.2.2.1.1 _ h1 h2) rfl rfl rfl rfl rfl ?_
  refine T_condD rfl (fun e1 => ?_) (fun e1 => ?_)
  · refine T_auto TT_ok rfl ?_
    exact T_ansI TT_ok [(4, none)] rfl rfl (by exact (szI_mono e1 (by omega)).symm)
  have e1r := e1
  refine T_auto TT_ok rfl ?_
  exact T_ansI TT_ok [(4, none)] rfl rfl (rfl)
theorem toRecord_g (x : GRecord) (hb : D.bds bigN (cRecord x)) : Con Tryz.prog 175 [] [vR (cRecord x)] [] (fun _ : Unit => True) (fun _ => [agRecordG x 901]) fun _ => [(901, arrC 5 cSet GSet.z x.sets)] := by
  refine con_enter Tryz.func175 rfl rfl rfl fun B0 r_ D_ w0 => ?_
  refine T_auto TT_ok rfl ?_
  refine RJ_C TT_ok (Con.sw 900 901 (toSetS_m x.sets hb.2.2.2.1.1)) rfl rfl (SVs.imp_refl _) (fun _ => rfl) rfl rfl rfl fun _ _ => ?_
  refine RJ_auto TT_ok rfl ?_
  refine T_ret TT_ok (()) [(2, some 159)] rfl rfl ?_ ?_ ?_
  · exact SVs.imp_refl _
  · exact ⟨⟨_, rfl, Ch.imp_refl _⟩, trivial⟩
  · trivial
theorem eqRecord_g (x : GRecord) (hb : D.bds bigN (cRecord x)) : Ans Tryz.prog 191 [] [vR (cRecord x), vR (cRecord x)] [] (vB true) := by
  refine con_enter Tryz.func191 rfl rfl rfl fun B0 r_ D_ w0 => ?_
  refine T_auto TT_ok rfl ?_
  refine T_condN rfl (fun e => absurd rfl e) (fun _ => ?_)
  refine T_auto TT_ok rfl ?_
  refine T_condN rfl (fun e => absurd rfl e) (fun _ => ?_)
  refine T_auto TT_ok rfl ?_
  refine T_condN rfl (fun e => absurd rfl e) (fun _ => ?_)
  refine T_auto TT_ok rfl ?_
  refine RJ_Q TT_ok (eqSetS_q _ hb.2.2.2.1.1) rfl rfl rfl rfl rfl ?_
  refine T_cond rfl (fun e => by cases e) (fun _ => ?_)
  refine T_auto TT_ok rfl ?_
  exact T_ansB TT_ok [(4, none)] rfl rfl (rfl)
theorem szRecordS_q (xs : List GRecord) (hb : D.bd maxL (dL 4 cRecord GRecord.z xs)) (l : Int) (h1 : 0 ≤ l) (h2 : l ≤ 1048576) : Ans Tryz.prog 123 [] [vL 4 cRecord GRecord.z xs, vI l] [] (vI (szI l (wL wRecord xs))) := by
  have hx : xs.length ≤ maxL := hb.1
  unfold maxL at hx
  unfold wL
  refine con_enter Tryz.func123 rfl rfl rfl fun B0 r_ D_ w0 => ?_
  refine T_auto TT_ok rfl ?_
  refine T_condD rfl (fun e => ?_) (fun e => ?_)
  · refine T_auto TT_ok rfl ?_
    exact T_ansI TT_ok [(4, none)] rfl rfl ((szI_mono (szI_no e) (Nat.le_add_right _ _)).symm)
  refine T_auto TT_ok rfl ?_
  refine T_loopA (ι := Nat) (fun i => [(5, vI i), (1, vI (l - xs.length - (sumW wRecord (xs.take i) : Nat)))]) (fun _ => []) (fun i => i ≤ xs.length ∧ 0 ≤ l - xs.length - (sumW wRecord (xs.take i) : Nat)) (fun i => xs.length - i) 0 [] [] rfl rfl ⟨Nat.zero_le _, by simp [sumW]; omega⟩ ⟨⟨_, rfl, SV.imp_refl _⟩, ⟨_, rfl, SV.imp_of (vI_eq (by simp [sumW]))⟩, trivial⟩ (by repeat (first | exact trivial | refine And.intro ⟨_, rfl, Ch.imp_refl _⟩ ?_)) ?_
  intro i ⟨h3, h4⟩
  refine T_auto TT_ok rfl ?_
  refine T_condD rfl (fun e2 => ?_) (fun e2 => ?_)
  · have hi : i < xs.length := by omega
    have hs := sumW_take (w := wRecord) (z := GRecord.z) hi
    have hs2 := sumW_take_le (w := wRecord) xs (i + 1)
    refine T_auto TT_ok rfl ?_
    refine RJ_Q TT_ok (szRecord_g _ (hb.2 i hi) _ h4 (by omega)) rfl rfl rfl rfl rfl ?_
    refine T_condD rfl (fun e3 => ?_) (fun e3 => ?_)
    · have h5 := szI_neg.1 e3
      refine T_auto TT_ok rfl ?_
      exact T_ansI TT_ok [(4, none)] rfl rfl ((szI_mono (szI_neg.2 (by omega)) (Nat.le_refl _)).symm)
    · have h5 := szI_in e3
      refine T_auto TT_ok rfl ?_
      exact X_inv (i + 1) ⟨hi, by omega⟩ (by omega) ⟨⟨_, rfl, SV.imp_refl _⟩, ⟨_, rfl, SV.imp_of (vI_eq (by omega))⟩, (by repeat (first | exact trivial | refine And.intro ⟨_, rfl, SV.imp_refl _⟩ ?_))⟩ (by repeat (first | exact trivial | refine And.intro ⟨_, rfl, Ch.imp_refl _⟩ ?_))
  · have hi : i = xs.length := by omega
    subst hi
    rw [List.take_length] at h4 ⊢
    refine T_auto TT_ok rfl ?_
    exact T_ansI TT_ok [(4, none)] rfl rfl (by rw [szI_yes (by omega)]; omega)
theorem eqRecordS_q (xs : List GRecord) (hb : D.bd bigN (dL 4 cRecord GRecord.z xs)) : Ans Tryz.prog 156 [] [vL 4 cRecord GRecord.z xs, vL 4 cRecord GRecord.z xs] [] (vB true) := by
  have hl : xs.length ≤ 1048576 := hb.1
  refine con_enter Tryz.func156 rfl rfl rfl fun B0 r_ D_ w0 => ?_
  refine T_auto TT_ok rfl ?_
  refine T_condN rfl (fun e => absurd rfl e) (fun _ => ?_)
  refine T_auto TT_ok rfl ?_
  refine T_loopA (ι := Nat) (fun i => [(5, vI i)]) (fun _ => []) (fun i => i ≤ xs.length) (fun i => xs.length - i) 0 [] [] rfl rfl (Nat.zero_le _) (by repeat (first | exact trivial | refine And.intro ⟨_, rfl, SV.imp_refl _⟩ ?_)) (by repeat (first | exact trivial | refine And.intro ⟨_, rfl, Ch.imp_refl _⟩ ?_)) ?_
  intro i h1
  refine T_auto TT_ok rfl ?_
  refine T_condD rfl (fun e => ?_) (fun e => ?_)
  · have hi : i < xs.length := by omega
    refine T_auto TT_ok rfl ?_
    refine T_drawA TT_ok [] rfl rfl fun B0 H0 => ?_
    refine DJ_Q TT_ok (eqRecord_g _ (hb.2 i hi)) rfl rfl rfl rfl rfl rfl ?_
    refine DJ_endA TT_ok rfl ?_
    refine T_cond rfl (fun e => by cases e) (fun _ => ?_)
    refine T_auto TT_ok rfl ?_
    exact X_inv (i + 1) hi (by omega) (by repeat (first | exact trivial | refine And.intro ⟨_, rfl, SV.imp_refl _⟩ ?_)) (by repeat (first | exact trivial | refine And.intro ⟨_, rfl, Ch.imp_refl _⟩ ?_))
  · refine T_auto TT_ok rfl ?_
    exact T_ansB TT_ok [(4, none)] rfl rfl (rfl)
theorem toRecordS_m (xs : List GRecord) (hb : D.bd bigN (dL 4 cRecord GRecord.z xs)) : MkL Tryz.prog 133 [vL 4 cRecord GRecord.z xs] 4 cRecord GRecord.z xs := by
  have hl : xs.length ≤ 1048576 := hb.1
  refine con_enter Tryz.func133 rfl rfl rfl fun B0 r_ D_ w0 => ?_
  refine T_auto TT_ok rfl ?_
  refine RJ_make TT_ok 7 xs.length rfl rfl rfl rfl rfl rfl rfl ⟨by simp; omega, by unfold maxL; omega⟩ ?_
  refine RJ_auto TT_ok rfl ?_
  refine T_loopA (ι := Nat) (fun i => [(4, vI i)]) (fun i => [(7, .arr 4 xs.length fun k => cRecord (if k < i then xs.getD k GRecord.z else GRecord.z))]) (fun i => i ≤ xs.length) (fun i => xs.length - i) 0 [7] [] rfl rfl (Nat.zero_le _) (by repeat (first | exact trivial | refine And.intro ⟨_, rfl, SV.imp_refl _⟩ ?_)) ⟨⟨_, rfl, Ch.imp_own rfl fun k hk => by rw [if_neg (Nat.not_lt_zero _)]; exact OwnI.c (OwnI.c (OwnI.c (OwnI.n OwnI.e)))⟩, trivial⟩ ?_
  intro i h1
  refine T_auto TT_ok rfl ?_
  refine T_condD rfl (fun e => ?_) (fun e => ?_)
  · have hi : i < xs.length := by omega
    refine T_auto TT_ok rfl ?_
    refine RJ_C TT_ok (Con.sw 901 2901 (toRecord_g _ (hb.2 i hi))) rfl rfl (SVs.imp_refl _) (fun _ => rfl) rfl rfl rfl fun _ _ => ?_
    refine RJ_auto TT_ok rfl ?_
    refine RJ_view (V_carve 7 i 7000 (l := [.v (.int .i64 0), .v (.int .i64 0), .v (.int .i64 0), .s .o 5 0 fun i => cSet (([] : List GSet).getD i GSet.z)]) rfl (by rw [if_neg (by omega : ¬ ((i : Int)).toNat < i)]; rfl) rfl rfl rfl rfl ⟨by omega, by omega⟩) ?_
    refine RJ_view (V_pe 21 rfl rfl rfl) ?_
    refine RJ_auto TT_ok rfl ?_
    refine X_view (V_fold 7000 3 2901 rfl rfl rfl rfl rfl rfl rfl) ?_
    refine X_view (V_uncarve 7 7000 rfl rfl rfl rfl rfl rfl rfl) ?_
    exact X_inv (i + 1) hi (by omega) (by repeat (first | exact trivial | refine And.intro ⟨_, rfl, SV.imp_refl _⟩ ?_)) ⟨⟨_, rfl, Ch.imp_arr fun k hk => fill_step (fun x => cRecord x) rfl⟩, (by repeat (first | exact trivial | refine And.intro ⟨_, rfl, Ch.imp_refl _⟩ ?_))⟩
  · have hi : i = xs.length := by omega
    subst hi
    refine T_auto TT_ok rfl ?_
    refine T_view (V_sw 7 900) ?_
    refine T_ret TT_ok (()) [(2, none)] rfl rfl ?_ ?_ ?_
    · exact SVs.imp_refl _
    · exact ⟨⟨_, rfl, Ch.imp_arr fun k hk => by rw [if_pos hk]⟩, trivial⟩
    · trivial
theorem mRecord_eq (x : GRecord) : mRecord x = 0+1+1+1+(5 * x.sets.length) := by unfold mRecord; omega
theorem markRecordS_w (xs : List GRecord) (hb : D.bd bigN (dL 4 cRecord GRecord.z xs)) (k0 : Int) (h1 : 0 ≤ k0) (h2 : k0 + (sumW mRecord xs : Nat) ≤ 1000000000000) : Con Tryz.prog 93 [900] [.a (.g 900), vI k0] [(900, arrC 4 cRecord GRecord.z xs)] (fun _ : Unit => True) (fun _ => [vI (k0 + (sumW mRecord xs : Nat))]) fun _ => [(900, arrC 4 cRecord GRecord.z (mkL mkRecord mRecord GRecord.z xs k0))] := by
  have hl : xs.length ≤ 1048576 := hb.1
  refine con_enter Tryz.func93 rfl rfl rfl fun B0 r_ D_ w0 => ?_
  refine T_auto TT_ok rfl ?_
  refine T_loopA (ι := Nat) (fun i => [(5, vI i), (1, vI (k0 + (sumW mRecord (xs.take i) : Nat)))]) (fun i => [(900, .arr 4 xs.length fun j => cRecord (if j < i then mkRecord (xs.getD j GRecord.z) (k0 + (sumW mRecord (xs.take j) : Nat)) else xs.getD j GRecord.z))]) (fun i => i ≤ xs.length) (fun i => xs.length - i) 0 [900] [] rfl rfl (Nat.zero_le _) ⟨⟨_, rfl, SV.imp_refl _⟩, ⟨_, rfl, SV.imp_of (vI_eq (by simp [sumW]))⟩, trivial⟩ ⟨⟨_, rfl, Ch.imp_arr fun k hk => by rw [if_neg (Nat.not_lt_zero _)]⟩, trivial⟩ ?_
  intro i h3
  refine T_auto TT_ok rfl ?_
  refine T_condD rfl (fun e => ?_) (fun e => ?_)
  · have hi : i < xs.length := by omega
    have hs := sumW_take (w := mRecord) (z := GRecord.z) hi
    have hs2 := sumW_take_le (w := mRecord) xs (i + 1)
    have hm := mRecord_eq (xs.getD i GRecord.z)
    have ht : sumW mRecord (xs.take ((i : Int)).toNat) = sumW mRecord (xs.take i) := rfl
    refine T_view (V_carve 900 i 7000 (l := [.v (.int .i64 (xs.getD i GRecord.z).kind), .v (.int .i64 (xs.getD i GRecord.z).tx), .v (.int .i64 (xs.getD i GRecord.z).region), .s .o 5 (xs.getD i GRecord.z).sets.length fun j => cSet ((xs.getD i GRecord.z).sets.getD j GSet.z)]) rfl (by rw [if_neg (by omega : ¬ ((i : Int)).toNat < i)]; rfl) rfl rfl rfl rfl ⟨by omega, by omega⟩) ?_
    refine T_view (V_open 7000 3 7001 rfl rfl rfl rfl rfl rfl) ?_
    refine T_auto TT_ok rfl ?_
    refine RJ_view (V_pe 16 rfl rfl rfl) ?_
    refine RJ_auto TT_ok rfl ?_
    refine RJ_view (V_pe 23 rfl rfl rfl) ?_
    refine RJ_auto TT_ok rfl ?_
    refine RJ_view (V_pe 30 rfl rfl rfl) ?_
    refine RJ_auto TT_ok rfl ?_
    refine RJ_view (V_pe 36 rfl rfl rfl) ?_
    refine RJ_auto TT_ok rfl ?_
    refine RJ_C TT_ok (Con.sw 900 7001 (markSetS_w (xs.getD i GRecord.z).sets (hb.2 i hi).2.2.2.1.1 _ (by omega) (by omega))) rfl rfl (SVs.imp_refl _) (fun _ => rfl) rfl rfl rfl fun _ _ => ?_
    refine RJ_auto TT_ok rfl ?_
    refine X_view (V_fold 7000 3 7001 rfl rfl rfl rfl rfl rfl rfl) ?_
    refine X_view (V_uncarve 900 7000 rfl rfl rfl rfl rfl rfl rfl) ?_
    exact X_inv (i + 1) hi (by omega) ⟨⟨_, rfl, SV.imp_refl _⟩, ⟨_, rfl, SV.imp_of (vI_eq (by omega))⟩, (by repeat (first | exact trivial | refine And.intro ⟨_, rfl, SV.imp_refl _⟩ ?_))⟩ ⟨⟨_, rfl, Ch.imp_arr fun k hk => fill_step2 (i := i) (k := k) (fun x => cRecord x) (fun j => mkRecord (xs.getD j GRecord.z) (k0 + (sumW mRecord (xs.take j) : Nat))) (o := fun j => xs.getD j GRecord.z) (by rfl)⟩, (by repeat (first | exact trivial | refine And.intro ⟨_, rfl, Ch.imp_refl _⟩ ?_))⟩
  · have hi : i = xs.length := by omega
    subst hi
    rw [List.take_length]
    refine T_auto TT_ok rfl ?_
    refine T_ret TT_ok (()) [(4, none)] rfl rfl ?_ ?_ ?_
    · exact SVs.imp_refl _
    · exact ⟨⟨_, rfl, Ch.imp_len (tab_length _ _).symm fun k hk => by rw [if_pos hk, mkL, tab_getD hk]⟩, trivial⟩
    · trivial
theorem heldRecordS_w (xs : List GRecord) (hb : D.bd bigN (dL 4 cRecord GRecord.z xs)) (k0 : Int) (h1 : 0 ≤ k0) (h2 : k0 + (sumW mRecord xs : Nat) ≤ 1000000000000) : Ans Tryz.prog 98 [] [vL 4 cRecord GRecord.z (mkL mkRecord mRecord GRecord.z xs k0), vI k0] [] (vI (k0 + (sumW mRecord xs : Nat))) := by
  have hl : xs.length ≤ 1048576 := hb.1
  refine Con.wkA (args := [.a (.s .r 4 xs.length fun j => cRecord (mkRecord (xs.getD j GRecord.z) (k0 + (sumW mRecord (xs.take j) : Nat)))), vI k0]) ?_ ⟨_, _, rfl, imp_untabS, SVs.imp_refl _⟩
  refine con_enter Tryz.func98 rfl rfl rfl fun B0 r_ D_ w0 => ?_
  refine T_auto TT_ok rfl ?_
  refine T_loopA (ι := Nat) (fun i => [(5, vI i), (1, vI (k0 + (sumW mRecord (xs.take i) : Nat)))]) (fun _ => []) (fun i => i ≤ xs.length) (fun i => xs.length - i) 0 [] [] rfl rfl (Nat.zero_le _) ⟨⟨_, rfl, SV.imp_refl _⟩, ⟨_, rfl, SV.imp_of (vI_eq (by simp [sumW]))⟩, trivial⟩ (by repeat (first | exact trivial | refine And.intro ⟨_, rfl, Ch.imp_refl _⟩ ?_)) ?_
  intro i h3
  refine T_auto TT_ok rfl ?_
  refine T_condD rfl (fun e => ?_) (fun e => ?_)
  · have hi : i < xs.length := by omega
    have hs := sumW_take (w := mRecord) (z := GRecord.z) hi
    have hs2 := sumW_take_le (w := mRecord) xs (i + 1)
    have hm := mRecord_eq (xs.getD i GRecord.z)
    have ht : sumW mRecord (xs.take ((i : Int)).toNat) = sumW mRecord (xs.take i) := rfl
    refine T_auto TT_ok rfl ?_
    refine T_condN rfl (fun e => absurd rfl e) (fun _ => ?_)
    refine T_auto TT_ok rfl ?_
    refine T_condN rfl (fun e => absurd rfl e) (fun _ => ?_)
    refine T_auto TT_ok rfl ?_
    refine T_condN rfl (fun e => absurd rfl e) (fun _ => ?_)
    refine T_auto TT_ok rfl ?_
    refine RJ_Q TT_ok (heldSetS_w (xs.getD i GRecord.z).sets (hb.2 i hi).2.2.2.1.1 _ (by (try simp only [Int.toNat_natCast] at *); omega) (by (try simp only [Int.toNat_natCast] at *); omega)) rfl rfl rfl rfl rfl ?_
    refine T_condD rfl (fun e => by (try simp only [Int.toNat_natCast] at *); omega) (fun _ => ?_)
    refine T_auto TT_ok rfl ?_
    exact X_inv (i + 1) hi (by omega) ⟨⟨_, rfl, SV.imp_refl _⟩, ⟨_, rfl, SV.imp_of (vI_eq (by (try simp only [Int.toNat_natCast] at *); omega))⟩, (by repeat (first | exact trivial | refine And.intro ⟨_, rfl, SV.imp_refl _⟩ ?_))⟩ (by repeat (first | exact trivial | refine And.intro ⟨_, rfl, Ch.imp_refl _⟩ ?_))
  · have hi : i = xs.length := by omega
    subst hi
    rw [List.take_length]
    refine T_auto TT_ok rfl ?_
    exact T_ansI TT_ok [(4, none)] rfl rfl (rfl)
/-- its parts are own arrays -/
abbrev agCopyG (x : GCopy) (k1 : Nat) : SV := .ag [.v (.int .i64 x.region), .g k1]
theorem szCopy_g (x : GCopy) (hb : D.bds maxL (cCopy x)) (l : Int) (h1 : 0 ≤ l) (h2 : l ≤ 1048576) : Ans Tryz.prog 170 [] [vR (cCopy x), vI l] [] (vI (szI l (wCopy x))) := by
  unfold wCopy
  refine con_enter Tryz.func170 rfl rfl rfl fun B0 r_ D_ w0 => ?_
  refine T_auto TT_ok rfl ?_
  refine RJ_Q TT_ok (szCellS_q _ hb.2.1.1 _ h1 h2) rfl rfl rfl rfl rfl ?_
  refine T_condD rfl (fun e1 => ?_) (fun e1 => ?_)
  · refine T_auto TT_ok rfl ?_
    exact T_ansI TT_ok [(4, none)] rfl rfl (by exact (szI_mono e1 (by omega)).symm)
  have e1r := e1
  refine T_auto TT_ok rfl ?_
  exact T_ansI TT_ok [(4, none)] rfl rfl (rfl)
theorem toCopy_g (x : GCopy) (hb : D.bds bigN (cCopy x)) : Con Tryz.prog 174 [] [vR (cCopy x)] [] (fun _ : Unit => True) (fun _ => [agCopyG x 901]) fun _ => [(901, arrC 2 cCell GCell.z x.cells)] := by
  refine con_enter Tryz.func174 rfl rfl rfl fun B0 r_ D_ w0 => ?_
  refine T_auto TT_ok rfl ?_
  refine RJ_C TT_ok (Con.sw 900 901 (toCellS_m x.cells hb.2.1.1)) rfl rfl (SVs.imp_refl _) (fun _ => rfl) rfl rfl rfl fun _ _ => ?_
  refine RJ_auto TT_ok rfl ?_
  refine T_ret TT_ok (()) [(2, some 82)] rfl rfl ?_ ?_ ?_
  · exact SVs.imp_refl _
  · exact ⟨⟨_, rfl, Ch.imp_refl _⟩, trivial⟩
  · trivial
theorem eqCopy_g (x : GCopy) (hb : D.bds bigN (cCopy x)) : Ans Tryz.prog 190 [] [vR (cCopy x), vR (cCopy x)] [] (vB true) := by
  refine con_enter Tryz.func190 rfl rfl rfl fun B0 r_ D_ w0 => ?_
  refine T_auto TT_ok rfl ?_
  refine T_condN rfl (fun e => absurd rfl e) (fun _ => ?_)
  refine T_auto TT_ok rfl ?_
  refine RJ_Q TT_ok (eqCellS_q _ hb.2.1.1) rfl rfl rfl rfl rfl ?_
  refine T_cond rfl (fun e => by cases e) (fun _ => ?_)
  refine T_auto TT_ok rfl ?_
  exact T_ansB TT_ok [(4, none)] rfl rfl (rfl)
theorem szCopyS_q (xs : List GCopy) (hb : D.bd maxL (dL 2 cCopy GCopy.z xs)) (l : Int) (h1 : 0 ≤ l) (h2 : l ≤ 1048576) : Ans Tryz.prog 122 [] [vL 2 cCopy GCopy.z xs, vI l] [] (vI (szI l (wL wCopy xs))) := by
  have hx : xs.length ≤ maxL := hb.1
  unfold maxL at hx
  unfold wL
  refine con_enter Tryz.func122 rfl rfl rfl fun B0 r_ D_ w0 => ?_
  refine T_auto TT_ok rfl ?_
  refine T_condD rfl (fun e => ?_) (fun e => ?_)
  · refine T_auto TT_ok rfl ?_
    exact T_ansI TT_ok [(4, none)] rfl rfl ((szI_mono (szI_no e) (Nat.le_add_right _ _)).symm)
  refine T_auto TT_ok rfl ?_
  refine T_loopA (ι := Nat) (fun i => [(5, vI i), (1, vI (l - xs.length - (sumW wCopy (xs.take i) : Nat)))]) (fun _ => []) (fun i => i ≤ xs.length ∧ 0 ≤ l - xs.length - (sumW wCopy (xs.take i) : Nat)) (fun i => xs.length - i) 0 [] [] rfl rfl ⟨Nat.zero_le _, by simp [sumW]; omega⟩ ⟨⟨_, rfl, SV.imp_refl _⟩, ⟨_, rfl, SV.imp_of (vI_eq (by simp [sumW]))⟩, trivial⟩ (by repeat (first | exact trivial | refine And.intro ⟨_, rfl, Ch.imp_refl _⟩ ?_)) ?_
  intro i ⟨h3, h4⟩
  refine T_auto TT_ok rfl ?_
  refine T_condD rfl (fun e2 => ?_) (fun e2 => ?_)
  · have hi : i < xs.length := by omega
    have hs := sumW_take (w := wCopy) (z := GCopy.z) hi
    have hs2 := sumW_take_le (w := wCopy) xs (i + 1)
    refine T_auto TT_ok rfl ?_
    refine RJ_Q TT_ok (szCopy_g _ (hb.2 i hi) _ h4 (by omega)) rfl rfl rfl rfl rfl ?_
    refine T_condD rfl (fun e3 => ?_) (fun e3 => ?_)
    · have h5 := szI_neg.1 e3
      refine T_auto TT_ok rfl ?_
      exact T_ansI TT_ok [(4, none)] rfl rfl ((szI_mono (szI_neg.2 (by omega)) (Nat.le_refl _)).symm)
    · have h5 := szI_in e3
      refine T_auto TT_ok rfl ?_
      exact X_inv (i + 1) ⟨hi, by omega⟩ (by omega) ⟨⟨_, rfl, SV.imp_refl _⟩, ⟨_, rfl, SV.imp_of (vI_eq (by omega))⟩, (by repeat (first | exact trivial | refine And.intro ⟨_, rfl, SV.imp_refl _⟩ ?_))⟩ (by repeat (first | exact trivial | refine And.intro ⟨_, rfl, Ch.imp_refl _⟩ ?_))
  · have hi : i = xs.length := by omega
    subst hi
    rw [List.take_length] at h4 ⊢
    refine T_auto TT_ok rfl ?_
    exact T_ansI TT_ok [(4, none)] rfl rfl (by rw [szI_yes (by omega)]; omega)
theorem eqCopyS_q (xs : List GCopy) (hb : D.bd bigN (dL 2 cCopy GCopy.z xs)) : Ans Tryz.prog 155 [] [vL 2 cCopy GCopy.z xs, vL 2 cCopy GCopy.z xs] [] (vB true) := by
  have hl : xs.length ≤ 1048576 := hb.1
  refine con_enter Tryz.func155 rfl rfl rfl fun B0 r_ D_ w0 => ?_
  refine T_auto TT_ok rfl ?_
  refine T_condN rfl (fun e => absurd rfl e) (fun _ => ?_)
  refine T_auto TT_ok rfl ?_
  refine T_loopA (ι := Nat) (fun i => [(5, vI i)]) (fun _ => []) (fun i => i ≤ xs.length) (fun i => xs.length - i) 0 [] [] rfl rfl (Nat.zero_le _) (by repeat (first | exact trivial | refine And.intro ⟨_, rfl, SV.imp_refl _⟩ ?_)) (by repeat (first | exact trivial | refine And.intro ⟨_, rfl, Ch.imp_refl _⟩ ?_)) ?_
  intro i h1
  refine T_auto TT_ok rfl ?_
  refine T_condD rfl (fun e => ?_) (fun e => ?_)
  · have hi : i < xs.length := by omega
    refine T_auto TT_ok rfl ?_
    refine T_drawA TT_ok [] rfl rfl fun B0 H0 => ?_
    refine DJ_Q TT_ok (eqCopy_g _ (hb.2 i hi)) rfl rfl rfl rfl rfl rfl ?_
    refine DJ_endA TT_ok rfl ?_
    refine T_cond rfl (fun e => by cases e) (fun _ => ?_)
    refine T_auto TT_ok rfl ?_
    exact X_inv (i + 1) hi (by omega) (by repeat (first | exact trivial | refine And.intro ⟨_, rfl, SV.imp_refl _⟩ ?_)) (by repeat (first | exact trivial | refine And.intro ⟨_, rfl, Ch.imp_refl _⟩ ?_))
  · refine T_auto TT_ok rfl ?_
    exact T_ansB TT_ok [(4, none)] rfl rfl (rfl)
theorem toCopyS_m (xs : List GCopy) (hb : D.bd bigN (dL 2 cCopy GCopy.z xs)) : MkL Tryz.prog 132 [vL 2 cCopy GCopy.z xs] 2 cCopy GCopy.z xs := by
  have hl : xs.length ≤ 1048576 := hb.1
  refine con_enter Tryz.func132 rfl rfl rfl fun B0 r_ D_ w0 => ?_
  refine T_auto TT_ok rfl ?_
  refine RJ_make TT_ok 7 xs.length rfl rfl rfl rfl rfl rfl rfl ⟨by simp; omega, by unfold maxL; omega⟩ ?_
  refine RJ_auto TT_ok rfl ?_
  refine T_loopA (ι := Nat) (fun i => [(4, vI i)]) (fun i => [(7, .arr 2 xs.length fun k => cCopy (if k < i then xs.getD k GCopy.z else GCopy.z))]) (fun i => i ≤ xs.length) (fun i => xs.length - i) 0 [7] [] rfl rfl (Nat.zero_le _) (by repeat (first | exact trivial | refine And.intro ⟨_, rfl, SV.imp_refl _⟩ ?_)) ⟨⟨_, rfl, Ch.imp_own rfl fun k hk => by rw [if_neg (Nat.not_lt_zero _)]; exact OwnI.c (OwnI.n OwnI.e)⟩, trivial⟩ ?_
  intro i h1
  refine T_auto TT_ok rfl ?_
  refine T_condD rfl (fun e => ?_) (fun e => ?_)
  · have hi : i < xs.length := by omega
    refine T_auto TT_ok rfl ?_
    refine RJ_C TT_ok (Con.sw 901 2901 (toCopy_g _ (hb.2 i hi))) rfl rfl (SVs.imp_refl _) (fun _ => rfl) rfl rfl rfl fun _ _ => ?_
    refine RJ_auto TT_ok rfl ?_
    refine RJ_view (V_carve 7 i 7000 (l := [.v (.int .i64 0), .s .o 2 0 fun i => cCell (([] : List GCell).getD i GCell.z)]) rfl (by rw [if_neg (by omega : ¬ ((i : Int)).toNat < i)]; rfl) rfl rfl rfl rfl ⟨by omega, by omega⟩) ?_
    refine RJ_view (V_pe 21 rfl rfl rfl) ?_
    refine RJ_auto TT_ok rfl ?_
    refine X_view (V_fold 7000 1 2901 rfl rfl rfl rfl rfl rfl rfl) ?_
    refine X_view (V_uncarve 7 7000 rfl rfl rfl rfl rfl rfl rfl) ?_
    exact X_inv (i + 1) hi (by omega) (by repeat (first | exact trivial | refine And.intro ⟨_, rfl, SV.imp_refl _⟩ ?_)) ⟨⟨_, rfl, Ch.imp_arr fun k hk => fill_step (fun x => cCopy x) rfl⟩, (by repeat (first | exact trivial | refine And.intro ⟨_, rfl, Ch.imp_refl _⟩ ?_))⟩
  · have hi : i = xs.length := by omega
    subst hi
    refine T_auto TT_ok rfl ?_
    refine T_view (V_sw 7 900) ?_
    refine T_ret TT_ok (()) [(2, none)] rfl rfl ?_ ?_ ?_
    · exact SVs.imp_refl _
    · exact ⟨⟨_, rfl, Ch.imp_arr fun k hk => by rw [if_pos hk]⟩, trivial⟩
    · trivial
theorem mCopy_eq (x : GCopy) : mCopy x = 0+1+(2 * x.cells.length) := by unfold mCopy; omega
theorem markCopyS_w (xs : List GCopy) (hb : D.bd bigN (dL 2 cCopy GCopy.z xs)) (k0 : Int) (h1 : 0 ≤ k0) (h2 : k0 + (sumW mCopy xs : Nat) ≤ 1000000000000) : Con Tryz.prog 92 [900] [.a (.g 900), vI k0] [(900, arrC 2 cCopy GCopy.z xs)] (fun _ : Unit => True) (fun _ => [vI (k0 + (sumW mCopy xs : Nat))]) fun _ => [(900, arrC 2 cCopy GCopy.z (mkL mkCopy mCopy GCopy.z xs k0))] := by
  have hl : xs.length ≤ 1048576 := hb.1
  refine con_enter Tryz.func92 rfl rfl rfl fun B0 r_ D_ w0 => ?_
  refine T_auto TT_ok rfl ?_
  refine T_loopA (ι := Nat) (fun i => [(5, vI i), (1, vI (k0 + (sumW mCopy (xs.take i) : Nat)))]) (fun i => [(900, .arr 2 xs.length fun j => cCopy (if j < i then mkCopy (xs.getD j GCopy.z) (k0 + (sumW mCopy (xs.take j) : Nat)) else xs.getD j GCopy.z))]) (fun i => i ≤ xs.length) (fun i => xs.length - i) 0 [900] [] rfl rfl (Nat.zero_le _) ⟨⟨_, rfl, SV.imp_refl _⟩, ⟨_, rfl, SV.imp_of (vI_eq (by simp [sumW]))⟩, trivial⟩ ⟨⟨_, rfl, Ch.imp_arr fun k hk => by rw [if_neg (Nat.not_lt_zero _)]⟩, trivial⟩ ?_
  intro i h3
  refine T_auto TT_ok rfl ?_
  refine T_condD rfl (fun e => ?_) (fun e => ?_)
  · have hi : i < xs.length := by omega
    have hs := sumW_take (w := mCopy) (z := GCopy.z) hi
    have hs2 := sumW_take_le (w := mCopy) xs (i + 1)
    have hm := mCopy_eq (xs.getD i GCopy.z)
    have ht : sumW mCopy (xs.take ((i : Int)).toNat) = sumW mCopy (xs.take i) := rfl
    refine T_view (V_carve 900 i 7000 (l := [.v (.int .i64 (xs.getD i GCopy.z).region), .s .o 2 (xs.getD i GCopy.z).cells.length fun j => cCell ((xs.getD i GCopy.z).cells.getD j GCell.z)]) rfl (by rw [if_neg (by omega : ¬ ((i : Int)).toNat < i)]; rfl) rfl rfl rfl rfl ⟨by omega, by omega⟩) ?_
    refine T_view (V_open 7000 1 7001 rfl rfl rfl rfl rfl rfl) ?_
    refine T_auto TT_ok rfl ?_
    refine RJ_view (V_pe 16 rfl rfl rfl) ?_
    refine RJ_auto TT_ok rfl ?_
    refine RJ_view (V_pe 22 rfl rfl rfl) ?_
    refine RJ_auto TT_ok rfl ?_
    refine RJ_C TT_ok (Con.sw 900 7001 (markCellS_w (xs.getD i GCopy.z).cells (hb.2 i hi).2.1.1 _ (by omega) (by omega))) rfl rfl (SVs.imp_refl _) (fun _ => rfl) rfl rfl rfl fun _ _ => ?_
    refine RJ_auto TT_ok rfl ?_
    refine X_view (V_fold 7000 1 7001 rfl rfl rfl rfl rfl rfl rfl) ?_
    refine X_view (V_uncarve 900 7000 rfl rfl rfl rfl rfl rfl rfl) ?_
    exact X_inv (i + 1) hi (by omega) ⟨⟨_, rfl, SV.imp_refl _⟩, ⟨_, rfl, SV.imp_of (vI_eq (by omega))⟩, (by repeat (first | exact trivial | refine And.intro ⟨_, rfl, SV.imp_refl _⟩ ?_))⟩ ⟨⟨_, rfl, Ch.imp_arr fun k hk => fill_step2 (i := i) (k := k) (fun x => cCopy x) (fun j => mkCopy (xs.getD j GCopy.z) (k0 + (sumW mCopy (xs.take j) : Nat))) (o := fun j => xs.getD j GCopy.z) (by rfl)⟩, (by repeat (first | exact trivial | refine And.intro ⟨_, rfl, Ch.imp_refl _⟩ ?_))⟩
  · have hi : i = xs.length := by omega
    subst hi
    rw [List.take_length]
    refine T_auto TT_ok rfl ?_
    refine T_ret TT_ok (()) [(4, none)] rfl rfl ?_ ?_ ?_
    · exact SVs.imp_refl _
    · exact ⟨⟨_, rfl, Ch.imp_len (tab_length _ _).symm fun k hk => by rw [if_pos hk, mkL, tab_getD hk]⟩, trivial⟩
    · trivial
theorem heldCopyS_w (xs : List GCopy) (hb : D.bd bigN (dL 2 cCopy GCopy.z xs)) (k0 : Int) (h1 : 0 ≤ k0) (h2 : k0 + (sumW mCopy xs : Nat) ≤ 1000000000000) : Ans Tryz.prog 97 [] [vL 2 cCopy GCopy.z (mkL mkCopy mCopy GCopy.z xs k0), vI k0] [] (vI (k0 + (sumW mCopy xs : Nat))) := by
  have hl : xs.length ≤ 1048576 := hb.1
  refine Con.wkA (args := [.a (.s .r 2 xs.length fun j => cCopy (mkCopy (xs.getD j GCopy.z) (k0 + (sumW mCopy (xs.take j) : Nat)))), vI k0]) ?_ ⟨_, _, rfl, imp_untabS, SVs.imp_refl _⟩
  refine con_enter Tryz.func97 rfl rfl rfl fun B0 r_ D_ w0 => ?_
  refine T_auto TT_ok rfl ?_
  refine T_loopA (ι := Nat) (fun i => [(5, vI i), (1, vI (k0 + (sumW mCopy (xs.take i) : Nat)))]) (fun _ => []) (fun i => i ≤ xs.length) (fun i => xs.length - i) 0 [] [] rfl rfl (Nat.zero_le _) ⟨⟨_, rfl, SV.imp_refl _⟩, ⟨_, rfl, SV.imp_of (vI_eq (by simp [sumW]))⟩, trivial⟩ (by repeat (first | exact trivial | refine And.intro ⟨_, rfl, Ch.imp_refl _⟩ ?_)) ?_
  intro i h3
  refine T_auto TT_ok rfl ?_
  refine T_condD rfl (fun e => ?_) (fun e => ?_)
  · have hi : i < xs.length := by omega
    have hs := sumW_take (w := mCopy) (z := GCopy.z) hi
    have hs2 := sumW_take_le (w := mCopy) xs (i + 1)
    have hm := mCopy_eq (xs.getD i GCopy.z)
    have ht : sumW mCopy (xs.take ((i : Int)).toNat) = sumW mCopy (xs.take i) := rfl
    refine T_auto TT_ok rfl ?_
    refine T_condN rfl (fun e => absurd rfl e) (fun _ => ?_)
    refine T_auto TT_ok rfl ?_
    refine RJ_Q TT_ok (heldCellS_w (xs.getD i GCopy.z).cells (hb.2 i hi).2.1.1 _ (by (try simp only [Int.toNat_natCast] at *); omega) (by (try simp only [Int.toNat_natCast] at *); omega)) rfl rfl rfl rfl rfl ?_
    refine T_condD rfl (fun e => by (try simp only [Int.toNat_natCast] at *); omega) (fun _ => ?_)
    refine T_auto TT_ok rfl ?_
    exact X_inv (i + 1) hi (by omega) ⟨⟨_, rfl, SV.imp_refl _⟩, ⟨_, rfl, SV.imp_of (vI_eq (by (try simp only [Int.toNat_natCast] at *); omega))⟩, (by repeat (first | exact trivial | refine And.intro ⟨_, rfl, SV.imp_refl _⟩ ?_))⟩ (by repeat (first | exact trivial | refine And.intro ⟨_, rfl, Ch.imp_refl _⟩ ?_))
  · have hi : i = xs.length := by omega
    subst hi
    rw [List.take_length]
    refine T_auto TT_ok rfl ?_
    exact T_ansI TT_ok [(4, none)] rfl rfl (rfl)
/-- its parts are own arrays -/
abbrev agMachineG (x : GMachine) (k1 k2 k3 : Nat) : SV := .ag [.v (.bool x.alive), .g k1, .g k2, .g k3]
theorem szMachine_g (x : GMachine) (hb : D.bds maxL (cMachine x)) (l : Int) (h1 : 0 ≤ l) (h2 : l ≤ 1048576) : Ans Tryz.prog 61 [] [vR (cMachine x), vI l] [] (vI (szI l (wMachine x))) := by
  unfold wMachine
  refine con_enter Tryz.func61 rfl rfl rfl fun B0 r_ D_ w0 => ?_
  refine T_auto TT_ok rfl ?_
  refine RJ_Q TT_ok (szCopyS_q _ hb.2.1 _ h1 h2) rfl rfl rfl rfl rfl ?_
  refine T_condD rfl (fun e1 => ?_) (fun e1 => ?_)
  · refine T_auto TT_ok rfl ?_
    exact T_ansI TT_ok [(4, none)] rfl rfl (by exact (szI_mono e1 (by omega)).symm)
  have e1r := e1
  refine T_auto TT_ok rfl ?_
  refine RJ_Q TT_ok (szRecordS_q _ hb.2.2.1 _ (szI_in e1).1 (Int.le_trans (szI_in e1).2.1 h2)) rfl rfl rfl rfl rfl ?_
  refine T_condD rfl (fun e2 => ?_) (fun e2 => ?_)
  · refine T_auto TT_ok rfl ?_
    exact T_ansI TT_ok [(4, none)] rfl rfl (by rw [szI_ge e1r] at e2; exact (szI_mono e2 (by omega)).symm)
  have e2r := e2
  rw [szI_ge e1r] at e2r
  refine T_auto TT_ok rfl ?_
  refine RJ_Q TT_ok (szInt64S_q _ hb.2.2.2.1.1 _ (szI_in e2).1 (Int.le_trans (szI_in e2).2.1 (Int.le_trans (szI_in e1).2.1 h2))) rfl rfl rfl rfl rfl ?_
  refine T_condD rfl (fun e3 => ?_) (fun e3 => ?_)
  · refine T_auto TT_ok rfl ?_
    exact T_ansI TT_ok [(4, none)] rfl rfl (by rw [szI_ge e1r, szI_ge e2r] at e3; exact (szI_mono e3 (by omega)).symm)
  have e3r := e3
  rw [szI_ge e1r, szI_ge e2r] at e3r
  refine T_auto TT_ok rfl ?_
  exact T_ansI TT_ok [(4, none)] rfl rfl (by rw [szI_ge e1r, szI_ge e2r])
theorem toMachine_g (x : GMachine) (hb : D.bds bigN (cMachine x)) : Con Tryz.prog 68 [] [vR (cMachine x)] [] (fun _ : Unit => True) (fun _ => [agMachineG x 901 902 903]) fun _ => [(901, arrC 2 cCopy GCopy.z x.copies), (902, arrC 4 cRecord GRecord.z x.log), (903, arrC 1 cInt 0 x.cleared)] := by
  refine con_enter Tryz.func68 rfl rfl rfl fun B0 r_ D_ w0 => ?_
  refine T_auto TT_ok rfl ?_
  refine RJ_C TT_ok (Con.sw 900 901 (toCopyS_m x.copies hb.2.1)) rfl rfl (SVs.imp_refl _) (fun _ => rfl) rfl rfl rfl fun _ _ => ?_
  refine RJ_auto TT_ok rfl ?_
  refine RJ_C TT_ok (Con.sw 900 902 (toRecordS_m x.log hb.2.2.1)) rfl rfl (SVs.imp_refl _) (fun _ => rfl) rfl rfl rfl fun _ _ => ?_
  refine RJ_auto TT_ok rfl ?_
  refine RJ_C TT_ok (Con.sw 900 903 (toInt64S_m x.cleared hb.2.2.2.1.1)) rfl rfl (SVs.imp_refl _) (fun _ => rfl) rfl rfl rfl fun _ _ => ?_
  refine RJ_auto TT_ok rfl ?_
  refine T_ret TT_ok (()) [(2, some 86)] rfl rfl ?_ ?_ ?_
  · exact SVs.imp_refl _
  · exact ⟨⟨_, rfl, Ch.imp_refl _⟩, ⟨_, rfl, Ch.imp_refl _⟩, ⟨_, rfl, Ch.imp_refl _⟩, trivial⟩
  · trivial
theorem eqMachine_g (x : GMachine) (hb : D.bds bigN (cMachine x)) : Ans Tryz.prog 89 [] [vR (cMachine x), vR (cMachine x)] [] (vB true) := by
  refine con_enter Tryz.func89 rfl rfl rfl fun B0 r_ D_ w0 => ?_
  refine T_auto TT_ok rfl ?_
  refine T_condX rfl (fun e => by simp at e) (fun _ => ?_)
  refine T_auto TT_ok rfl ?_
  refine RJ_Q TT_ok (eqCopyS_q _ hb.2.1) rfl rfl rfl rfl rfl ?_
  refine T_cond rfl (fun e => by cases e) (fun _ => ?_)
  refine T_auto TT_ok rfl ?_
  refine RJ_Q TT_ok (eqRecordS_q _ hb.2.2.1) rfl rfl rfl rfl rfl ?_
  refine T_cond rfl (fun e => by cases e) (fun _ => ?_)
  refine T_auto TT_ok rfl ?_
  refine RJ_Q TT_ok (eqInt64S_q _ hb.2.2.2.1.1) rfl rfl rfl rfl rfl ?_
  refine T_cond rfl (fun e => by cases e) (fun _ => ?_)
  refine T_auto TT_ok rfl ?_
  exact T_ansB TT_ok [(4, none)] rfl rfl (rfl)
theorem szMachineS_q (xs : List GMachine) (hb : D.bd maxL (dL 4 cMachine GMachine.z xs)) (l : Int) (h1 : 0 ≤ l) (h2 : l ≤ 1048576) : Ans Tryz.prog 24 [] [vL 4 cMachine GMachine.z xs, vI l] [] (vI (szI l (wL wMachine xs))) := by
  have hx : xs.length ≤ maxL := hb.1
  unfold maxL at hx
  unfold wL
  refine con_enter Tryz.func24 rfl rfl rfl fun B0 r_ D_ w0 => ?_
  refine T_auto TT_ok rfl ?_
  refine T_condD rfl (fun e => ?_) (fun e => ?_)
  · refine T_auto TT_ok rfl ?_
    exact T_ansI TT_ok [(4, none)] rfl rfl ((szI_mono (szI_no e) (Nat.le_add_right _ _)).symm)
  refine T_auto TT_ok rfl ?_
  refine T_loopA (ι := Nat) (fun i => [(5, vI i), (1, vI (l - xs.length - (sumW wMachine (xs.take i) : Nat)))]) (fun _ => []) (fun i => i ≤ xs.length ∧ 0 ≤ l - xs.length - (sumW wMachine (xs.take i) : Nat)) (fun i => xs.length - i) 0 [] [] rfl rfl ⟨Nat.zero_le _, by simp [sumW]; omega⟩ ⟨⟨_, rfl, SV.imp_refl _⟩, ⟨_, rfl, SV.imp_of (vI_eq (by simp [sumW]))⟩, trivial⟩ (by repeat (first | exact trivial | refine And.intro ⟨_, rfl, Ch.imp_refl _⟩ ?_)) ?_
  intro i ⟨h3, h4⟩
  refine T_auto TT_ok rfl ?_
  refine T_condD rfl (fun e2 => ?_) (fun e2 => ?_)
  · have hi : i < xs.length := by omega
    have hs := sumW_take (w := wMachine) (z := GMachine.z) hi
    have hs2 := sumW_take_le (w := wMachine) xs (i + 1)
    refine T_auto TT_ok rfl ?_
    refine RJ_Q TT_ok (szMachine_g _ (hb.2 i hi) _ h4 (by omega)) rfl rfl rfl rfl rfl ?_
    refine T_condD rfl (fun e3 => ?_) (fun e3 => ?_)
    · have h5 := szI_neg.1 e3
      refine T_auto TT_ok rfl ?_
      exact T_ansI TT_ok [(4, none)] rfl rfl ((szI_mono (szI_neg.2 (by omega)) (Nat.le_refl _)).symm)
    · have h5 := szI_in e3
      refine T_auto TT_ok rfl ?_
      exact X_inv (i + 1) ⟨hi, by omega⟩ (by omega) ⟨⟨_, rfl, SV.imp_refl _⟩, ⟨_, rfl, SV.imp_of (vI_eq (by omega))⟩, (by repeat (first | exact trivial | refine And.intro ⟨_, rfl, SV.imp_refl _⟩ ?_))⟩ (by repeat (first | exact trivial | refine And.intro ⟨_, rfl, Ch.imp_refl _⟩ ?_))
  · have hi : i = xs.length := by omega
    subst hi
    rw [List.take_length] at h4 ⊢
    refine T_auto TT_ok rfl ?_
    exact T_ansI TT_ok [(4, none)] rfl rfl (by rw [szI_yes (by omega)]; omega)
theorem eqMachineS_q (xs : List GMachine) (hb : D.bd bigN (dL 4 cMachine GMachine.z xs)) : Ans Tryz.prog 36 [] [vL 4 cMachine GMachine.z xs, vL 4 cMachine GMachine.z xs] [] (vB true) := by
  have hl : xs.length ≤ 1048576 := hb.1
  refine con_enter Tryz.func36 rfl rfl rfl fun B0 r_ D_ w0 => ?_
  refine T_auto TT_ok rfl ?_
  refine T_condN rfl (fun e => absurd rfl e) (fun _ => ?_)
  refine T_auto TT_ok rfl ?_
  refine T_loopA (ι := Nat) (fun i => [(5, vI i)]) (fun _ => []) (fun i => i ≤ xs.length) (fun i => xs.length - i) 0 [] [] rfl rfl (Nat.zero_le _) (by repeat (first | exact trivial | refine And.intro ⟨_, rfl, SV.imp_refl _⟩ ?_)) (by repeat (first | exact trivial | refine And.intro ⟨_, rfl, Ch.imp_refl _⟩ ?_)) ?_
  intro i h1
  refine T_auto TT_ok rfl ?_
  refine T_condD rfl (fun e => ?_) (fun e => ?_)
  · have hi : i < xs.length := by omega
    refine T_auto TT_ok rfl ?_
    refine T_drawA TT_ok [] rfl rfl fun B0 H0 => ?_
    refine DJ_Q TT_ok (eqMachine_g _ (hb.2 i hi)) rfl rfl rfl rfl rfl rfl ?_
    refine DJ_endA TT_ok rfl ?_
    refine T_cond rfl (fun e => by cases e) (fun _ => ?_)
    refine T_auto TT_ok rfl ?_
    exact X_inv (i + 1) hi (by omega) (by repeat (first | exact trivial | refine And.intro ⟨_, rfl, SV.imp_refl _⟩ ?_)) (by repeat (first | exact trivial | refine And.intro ⟨_, rfl, Ch.imp_refl _⟩ ?_))
  · refine T_auto TT_ok rfl ?_
    exact T_ansB TT_ok [(4, none)] rfl rfl (rfl)
theorem toMachineS_m (xs : List GMachine) (hb : D.bd bigN (dL 4 cMachine GMachine.z xs)) : MkL Tryz.prog 30 [vL 4 cMachine GMachine.z xs] 4 cMachine GMachine.z xs := by
  have hl : xs.length ≤ 1048576 := hb.1
  refine con_enter Tryz.func30 rfl rfl rfl fun B0 r_ D_ w0 => ?_
  refine T_auto TT_ok rfl ?_
  refine RJ_make TT_ok 7 xs.length rfl rfl rfl rfl rfl rfl rfl ⟨by simp; omega, by unfold maxL; omega⟩ ?_
  refine RJ_auto TT_ok rfl ?_
  refine T_loopA (ι := Nat) (fun i => [(4, vI i)]) (fun i => [(7, .arr 4 xs.length fun k => cMachine (if k < i then xs.getD k GMachine.z else GMachine.z))]) (fun i => i ≤ xs.length) (fun i => xs.length - i) 0 [7] [] rfl rfl (Nat.zero_le _) (by repeat (first | exact trivial | refine And.intro ⟨_, rfl, SV.imp_refl _⟩ ?_)) ⟨⟨_, rfl, Ch.imp_own rfl fun k hk => by rw [if_neg (Nat.not_lt_zero _)]; exact OwnI.c (OwnI.n (OwnI.n (OwnI.n OwnI.e)))⟩, trivial⟩ ?_
  intro i h1
  refine T_auto TT_ok rfl ?_
  refine T_condD rfl (fun e => ?_) (fun e => ?_)
  · have hi : i < xs.length := by omega
    refine T_auto TT_ok rfl ?_
    refine RJ_C TT_ok (Con.sw 903 2903 (Con.sw 902 2902 (Con.sw 901 2901 (toMachine_g _ (hb.2 i hi))))) rfl rfl (SVs.imp_refl _) (fun _ => rfl) rfl rfl rfl fun _ _ => ?_
    refine RJ_auto TT_ok rfl ?_
    refine RJ_view (V_carve 7 i 7000 (l := [.v (.bool false), .s .o 2 0 fun i => cCopy (([] : List GCopy).getD i GCopy.z), .s .o 4 0 fun i => cRecord (([] : List GRecord).getD i GRecord.z), .s .o 1 0 fun i => cInt (([] : List Int).getD i 0)]) rfl (by rw [if_neg (by omega : ¬ ((i : Int)).toNat < i)]; rfl) rfl rfl rfl rfl ⟨by omega, by omega⟩) ?_
    refine RJ_view (V_pe 21 rfl rfl rfl) ?_
    refine RJ_auto TT_ok rfl ?_
    refine X_view (V_fold 7000 1 2901 rfl rfl rfl rfl rfl rfl rfl) ?_
    refine X_view (V_fold 7000 2 2902 rfl rfl rfl rfl rfl rfl rfl) ?_
    refine X_view (V_fold 7000 3 2903 rfl rfl rfl rfl rfl rfl rfl) ?_
    refine X_view (V_uncarve 7 7000 rfl rfl rfl rfl rfl rfl rfl) ?_
    exact X_inv (i + 1) hi (by omega) (by repeat (first | exact trivial | refine And.intro ⟨_, rfl, SV.imp_refl _⟩ ?_)) ⟨⟨_, rfl, Ch.imp_arr fun k hk => fill_step (fun x => cMachine x) rfl⟩, (by repeat (first | exact trivial | refine And.intro ⟨_, rfl, Ch.imp_refl _⟩ ?_))⟩
  · have hi : i = xs.length := by omega
    subst hi
    refine T_auto TT_ok rfl ?_
    refine T_view (V_sw 7 900) ?_
    refine T_ret TT_ok (()) [(2, none)] rfl rfl ?_ ?_ ?_
    · exact SVs.imp_refl _
    · exact ⟨⟨_, rfl, Ch.imp_arr fun k hk => by rw [if_pos hk]⟩, trivial⟩
    · trivial
theorem mMachine_eq (x : GMachine) : mMachine x = 0+1+((sumW mCopy x.copies))+((sumW mRecord x.log))+(x.cleared.length) := by unfold mMachine; omega
theorem markMachineS_w (xs : List GMachine) (hb : D.bd bigN (dL 4 cMachine GMachine.z xs)) (k0 : Int) (h1 : 0 ≤ k0) (h2 : k0 + (sumW mMachine xs : Nat) ≤ 1000000000000) : Con Tryz.prog 39 [900] [.a (.g 900), vI k0] [(900, arrC 4 cMachine GMachine.z xs)] (fun _ : Unit => True) (fun _ => [vI (k0 + (sumW mMachine xs : Nat))]) fun _ => [(900, arrC 4 cMachine GMachine.z (mkL mkMachine mMachine GMachine.z xs k0))] := by
  have hl : xs.length ≤ 1048576 := hb.1
  refine con_enter Tryz.func39 rfl rfl rfl fun B0 r_ D_ w0 => ?_
  refine T_auto TT_ok rfl ?_
  refine T_loopA (ι := Nat) (fun i => [(5, vI i), (1, vI (k0 + (sumW mMachine (xs.take i) : Nat)))]) (fun i => [(900, .arr 4 xs.length fun j => cMachine (if j < i then mkMachine (xs.getD j GMachine.z) (k0 + (sumW mMachine (xs.take j) : Nat)) else xs.getD j GMachine.z))]) (fun i => i ≤ xs.length) (fun i => xs.length - i) 0 [900] [] rfl rfl (Nat.zero_le _) ⟨⟨_, rfl, SV.imp_refl _⟩, ⟨_, rfl, SV.imp_of (vI_eq (by simp [sumW]))⟩, trivial⟩ ⟨⟨_, rfl, Ch.imp_arr fun k hk => by rw [if_neg (Nat.not_lt_zero _)]⟩, trivial⟩ ?_
  intro i h3
  refine T_auto TT_ok rfl ?_
  refine T_condD rfl (fun e => ?_) (fun e => ?_)
  · have hi : i < xs.length := by omega
    have hs := sumW_take (w := mMachine) (z := GMachine.z) hi
    have hs2 := sumW_take_le (w := mMachine) xs (i + 1)
    have hm := mMachine_eq (xs.getD i GMachine.z)
    have ht : sumW mMachine (xs.take ((i : Int)).toNat) = sumW mMachine (xs.take i) := rfl
    refine T_view (V_carve 900 i 7000 (l := [.v (.bool (xs.getD i GMachine.z).alive), .s .o 2 (xs.getD i GMachine.z).copies.length fun j => cCopy ((xs.getD i GMachine.z).copies.getD j GCopy.z), .s .o 4 (xs.getD i GMachine.z).log.length fun j => cRecord ((xs.getD i GMachine.z).log.getD j GRecord.z), .s .o 1 (xs.getD i GMachine.z).cleared.length fun j => cInt ((xs.getD i GMachine.z).cleared.getD j 0)]) rfl (by rw [if_neg (by omega : ¬ ((i : Int)).toNat < i)]; rfl) rfl rfl rfl rfl ⟨by omega, by omega⟩) ?_
    refine T_view (V_open 7000 1 7001 rfl rfl rfl rfl rfl rfl) ?_
    refine T_view (V_open 7000 2 7002 rfl rfl rfl rfl rfl rfl) ?_
    refine T_view (V_open 7000 3 7003 rfl rfl rfl rfl rfl rfl) ?_
    refine T_auto TT_ok rfl ?_
    refine RJ_view (V_pe 18 rfl rfl rfl) ?_
    refine RJ_auto TT_ok rfl ?_
    refine RJ_view (V_pe 24 rfl rfl rfl) ?_
    refine RJ_auto TT_ok rfl ?_
    refine RJ_C TT_ok (Con.sw 900 7001 (markCopyS_w (xs.getD i GMachine.z).copies (hb.2 i hi).2.1 _ (by omega) (by omega))) rfl rfl (SVs.imp_refl _) (fun _ => rfl) rfl rfl rfl fun _ _ => ?_
    refine RJ_auto TT_ok rfl ?_
    refine RJ_view (V_pe 31 rfl rfl rfl) ?_
    refine RJ_auto TT_ok rfl ?_
    refine RJ_C TT_ok (Con.sw 900 7002 (markRecordS_w (xs.getD i GMachine.z).log (hb.2 i hi).2.2.1 _ (by omega) (by omega))) rfl rfl (SVs.imp_refl _) (fun _ => rfl) rfl rfl rfl fun _ _ => ?_
    refine RJ_auto TT_ok rfl ?_
    refine RJ_view (V_pe 38 rfl rfl rfl) ?_
    refine RJ_auto TT_ok rfl ?_
    refine RJ_C TT_ok (Con.sw 900 7003 (markInt64S_w (xs.getD i GMachine.z).cleared (hb.2 i hi).2.2.2.1.1 _ (by omega) (by omega))) rfl rfl (SVs.imp_refl _) (fun _ => rfl) rfl rfl rfl fun _ _ => ?_
    refine RJ_auto TT_ok rfl ?_
    refine X_view (V_fold 7000 1 7001 rfl rfl rfl rfl rfl rfl rfl) ?_
    refine X_view (V_fold 7000 2 7002 rfl rfl rfl rfl rfl rfl rfl) ?_
    refine X_view (V_fold 7000 3 7003 rfl rfl rfl rfl rfl rfl rfl) ?_
    refine X_view (V_uncarve 900 7000 rfl rfl rfl rfl rfl rfl rfl) ?_
    exact X_inv (i + 1) hi (by omega) ⟨⟨_, rfl, SV.imp_refl _⟩, ⟨_, rfl, SV.imp_of (vI_eq (by omega))⟩, (by repeat (first | exact trivial | refine And.intro ⟨_, rfl, SV.imp_refl _⟩ ?_))⟩ ⟨⟨_, rfl, Ch.imp_arr fun k hk => fill_step2 (i := i) (k := k) (fun x => cMachine x) (fun j => mkMachine (xs.getD j GMachine.z) (k0 + (sumW mMachine (xs.take j) : Nat))) (o := fun j => xs.getD j GMachine.z) (by rfl)⟩, (by repeat (first | exact trivial | refine And.intro ⟨_, rfl, Ch.imp_refl _⟩ ?_))⟩
  · have hi : i = xs.length := by omega
    subst hi
    rw [List.take_length]
    refine T_auto TT_ok rfl ?_
    refine T_ret TT_ok (()) [(4, none)] rfl rfl ?_ ?_ ?_
    · exact SVs.imp_refl _
    · exact ⟨⟨_, rfl, Ch.imp_len (tab_length _ _).symm fun k hk => by rw [if_pos hk, mkL, tab_getD hk]⟩, trivial⟩
    · trivial
theorem heldMachineS_w (xs : List GMachine) (hb : D.bd bigN (dL 4 cMachine GMachine.z xs)) (k0 : Int) (h1 : 0 ≤ k0) (h2 : k0 + (sumW mMachine xs : Nat) ≤ 1000000000000) : Ans Tryz.prog 42 [] [vL 4 cMachine GMachine.z (mkL mkMachine mMachine GMachine.z xs k0), vI k0] [] (vI (k0 + (sumW mMachine xs : Nat))) := by
  have hl : xs.length ≤ 1048576 := hb.1
  refine Con.wkA (args := [.a (.s .r 4 xs.length fun j => cMachine (mkMachine (xs.getD j GMachine.z) (k0 + (sumW mMachine (xs.take j) : Nat)))), vI k0]) ?_ ⟨_, _, rfl, imp_untabS, SVs.imp_refl _⟩
  refine con_enter Tryz.func42 rfl rfl rfl fun B0 r_ D_ w0 => ?_
  refine T_auto TT_ok rfl ?_
  refine T_loopA (ι := Nat) (fun i => [(5, vI i), (1, vI (k0 + (sumW mMachine (xs.take i) : Nat)))]) (fun _ => []) (fun i => i ≤ xs.length) (fun i => xs.length - i) 0 [] [] rfl rfl (Nat.zero_le _) ⟨⟨_, rfl, SV.imp_refl _⟩, ⟨_, rfl, SV.imp_of (vI_eq (by simp [sumW]))⟩, trivial⟩ (by repeat (first | exact trivial | refine And.intro ⟨_, rfl, Ch.imp_refl _⟩ ?_)) ?_
  intro i h3
  refine T_auto TT_ok rfl ?_
  refine T_condD rfl (fun e => ?_) (fun e => ?_)
  · have hi : i < xs.length := by omega
    have hs := sumW_take (w := mMachine) (z := GMachine.z) hi
    have hs2 := sumW_take_le (w := mMachine) xs (i + 1)
    have hm := mMachine_eq (xs.getD i GMachine.z)
    have ht : sumW mMachine (xs.take ((i : Int)).toNat) = sumW mMachine (xs.take i) := rfl
    refine T_auto TT_ok rfl ?_
    refine T_condX rfl (fun e => absurd ((beq_self_eq_true _).symm.trans e) (by decide)) (fun _ => ?_)
    refine T_auto TT_ok rfl ?_
    refine RJ_Q TT_ok (heldCopyS_w (xs.getD i GMachine.z).copies (hb.2 i hi).2.1 _ (by (try simp only [Int.toNat_natCast] at *); omega) (by (try simp only [Int.toNat_natCast] at *); omega)) rfl rfl rfl rfl rfl ?_
    refine T_condD rfl (fun e => by (try simp only [Int.toNat_natCast] at *); omega) (fun _ => ?_)
    refine T_auto TT_ok rfl ?_
    refine RJ_Q TT_ok (heldRecordS_w (xs.getD i GMachine.z).log (hb.2 i hi).2.2.1 _ (by (try simp only [Int.toNat_natCast] at *); omega) (by (try simp only [Int.toNat_natCast] at *); omega)) rfl rfl rfl rfl rfl ?_
    refine T_condD rfl (fun e => by (try simp only [Int.toNat_natCast] at *); omega) (fun _ => ?_)
    refine T_auto TT_ok rfl ?_
    refine RJ_Q TT_ok (heldInt64S_w (xs.getD i GMachine.z).cleared (hb.2 i hi).2.2.2.1.1 _ (by (try simp only [Int.toNat_natCast] at *); omega) (by (try simp only [Int.toNat_natCast] at *); omega)) rfl rfl rfl rfl rfl ?_
    refine T_condD rfl (fun e => by (try simp only [Int.toNat_natCast] at *); omega) (fun _ => ?_)
    refine T_auto TT_ok rfl ?_
    exact X_inv (i + 1) hi (by omega) ⟨⟨_, rfl, SV.imp_refl _⟩, ⟨_, rfl, SV.imp_of (vI_eq (by (try simp only [Int.toNat_natCast] at *); omega))⟩, (by repeat (first | exact trivial | refine And.intro ⟨_, rfl, SV.imp_refl _⟩ ?_))⟩ (by repeat (first | exact trivial | refine And.intro ⟨_, rfl, Ch.imp_refl _⟩ ?_))
  · have hi : i = xs.length := by omega
    subst hi
    rw [List.take_length]
    refine T_auto TT_ok rfl ?_
    exact T_ansI TT_ok [(4, none)] rfl rfl (rfl)
/-- its parts are own arrays -/
abbrev agTxG (x : GTx) (k1 k2 : Nat) : SV := .ag [.v (.int .i64 x.id), .v (.int .i64 x.home), .v (.int .i64 x.phase), .v (.int .i64 x.done), .g k1, .g k2, .v (.int .i64 x.stamp)]
theorem szTx_g (x : GTx) (hb : D.bds maxL (cTx x)) (l : Int) (h1 : 0 ≤ l) (h2 : l ≤ 1048576) : Ans Tryz.prog 62 [] [vR (cTx x), vI l] [] (vI (szI l (wTx x))) := by
  unfold wTx
  refine con_enter Tryz.func62 rfl rfl rfl fun B0 r_ D_ w0 => ?_
  refine T_auto TT_ok rfl ?_
  refine RJ_Q TT_ok (szNoteS_q _ hb.2.2.2.2.1.1 _ h1 h2) rfl rfl rfl rfl rfl ?_
  refine T_condD rfl (fun e1 => ?_) (fun e1 => ?_)
  · refine T_auto TT_ok rfl ?_
    exact T_ansI TT_ok [(4, none)] rfl rfl (by exact (szI_mono e1 (by omega)).symm)
  have e1r := e1
  refine T_auto TT_ok rfl ?_
  refine RJ_Q TT_ok (szSetS_q _ hb.2.2.2.2.2.1.1 _ (szI_in e1).1 (Int.le_trans (szI_in e1).2.1 h2)) rfl rfl rfl rfl rfl ?_
  refine T_condD rfl (fun e2 => ?_) (fun e2 => ?_)
  · refine T_auto TT_ok rfl ?_
    exact T_ansI TT_ok [(4, none)] rfl rfl (by rw [szI_ge e1r] at e2; exact (szI_mono e2 (by omega)).symm)
  have e2r := e2
  rw [szI_ge e1r] at e2r
  refine T_auto TT_ok rfl ?_
  exact T_ansI TT_ok [(4, none)] rfl rfl (by rw [szI_ge e1r])
theorem toTx_g (x : GTx) (hb : D.bds bigN (cTx x)) : Con Tryz.prog 69 [] [vR (cTx x)] [] (fun _ : Unit => True) (fun _ => [agTxG x 901 902]) fun _ => [(901, arrC 5 cNote GNote.z x.reads), (902, arrC 5 cSet GSet.z x.sets)] := by
  refine con_enter Tryz.func69 rfl rfl rfl fun B0 r_ D_ w0 => ?_
  refine T_auto TT_ok rfl ?_
  refine RJ_C TT_ok (Con.sw 900 901 (toNoteS_m x.reads hb.2.2.2.2.1.1)) rfl rfl (SVs.imp_refl _) (fun _ => rfl) rfl rfl rfl fun _ _ => ?_
  refine RJ_auto TT_ok rfl ?_
  refine RJ_C TT_ok (Con.sw 900 902 (toSetS_m x.sets hb.2.2.2.2.2.1.1)) rfl rfl (SVs.imp_refl _) (fun _ => rfl) rfl rfl rfl fun _ _ => ?_
  refine RJ_auto TT_ok rfl ?_
  refine T_ret TT_ok (()) [(2, some 56)] rfl rfl ?_ ?_ ?_
  · exact SVs.imp_refl _
  · exact ⟨⟨_, rfl, Ch.imp_refl _⟩, ⟨_, rfl, Ch.imp_refl _⟩, trivial⟩
  · trivial
theorem eqTx_g (x : GTx) (hb : D.bds bigN (cTx x)) : Ans Tryz.prog 90 [] [vR (cTx x), vR (cTx x)] [] (vB true) := by
  refine con_enter Tryz.func90 rfl rfl rfl fun B0 r_ D_ w0 => ?_
  refine T_auto TT_ok rfl ?_
  refine T_condN rfl (fun e => absurd rfl e) (fun _ => ?_)
  refine T_auto TT_ok rfl ?_
  refine T_condN rfl (fun e => absurd rfl e) (fun _ => ?_)
  refine T_auto TT_ok rfl ?_
  refine T_condN rfl (fun e => absurd rfl e) (fun _ => ?_)
  refine T_auto TT_ok rfl ?_
  refine T_condN rfl (fun e => absurd rfl e) (fun _ => ?_)
  refine T_auto TT_ok rfl ?_
  refine RJ_Q TT_ok (eqNoteS_q _ hb.2.2.2.2.1.1) rfl rfl rfl rfl rfl ?_
  refine T_cond rfl (fun e => by cases e) (fun _ => ?_)
  refine T_auto TT_ok rfl ?_
  refine RJ_Q TT_ok (eqSetS_q _ hb.2.2.2.2.2.1.1) rfl rfl rfl rfl rfl ?_
  refine T_cond rfl (fun e => by cases e) (fun _ => ?_)
  refine T_auto TT_ok rfl ?_
  refine T_condN rfl (fun e => absurd rfl e) (fun _ => ?_)
  refine T_auto TT_ok rfl ?_
  exact T_ansB TT_ok [(4, none)] rfl rfl (rfl)
theorem szTxS_q (xs : List GTx) (hb : D.bd maxL (dL 7 cTx GTx.z xs)) (l : Int) (h1 : 0 ≤ l) (h2 : l ≤ 1048576) : Ans Tryz.prog 25 [] [vL 7 cTx GTx.z xs, vI l] [] (vI (szI l (wL wTx xs))) := by
  have hx : xs.length ≤ maxL := hb.1
  unfold maxL at hx
  unfold wL
  refine con_enter Tryz.func25 rfl rfl rfl fun B0 r_ D_ w0 => ?_
  refine T_auto TT_ok rfl ?_
  refine T_condD rfl (fun e => ?_) (fun e => ?_)
  · refine T_auto TT_ok rfl ?_
    exact T_ansI TT_ok [(4, none)] rfl rfl ((szI_mono (szI_no e) (Nat.le_add_right _ _)).symm)
  refine T_auto TT_ok rfl ?_
  refine T_loopA (ι := Nat) (fun i => [(5, vI i), (1, vI (l - xs.length - (sumW wTx (xs.take i) : Nat)))]) (fun _ => []) (fun i => i ≤ xs.length ∧ 0 ≤ l - xs.length - (sumW wTx (xs.take i) : Nat)) (fun i => xs.length - i) 0 [] [] rfl rfl ⟨Nat.zero_le _, by simp [sumW]; omega⟩ ⟨⟨_, rfl, SV.imp_refl _⟩, ⟨_, rfl, SV.imp_of (vI_eq (by simp [sumW]))⟩, trivial⟩ (by repeat (first | exact trivial | refine And.intro ⟨_, rfl, Ch.imp_refl _⟩ ?_)) ?_
  intro i ⟨h3, h4⟩
  refine T_auto TT_ok rfl ?_
  refine T_condD rfl (fun e2 => ?_) (fun e2 => ?_)
  · have hi : i < xs.length := by omega
    have hs := sumW_take (w := wTx) (z := GTx.z) hi
    have hs2 := sumW_take_le (w := wTx) xs (i + 1)
    refine T_auto TT_ok rfl ?_
    refine RJ_Q TT_ok (szTx_g _ (hb.2 i hi) _ h4 (by omega)) rfl rfl rfl rfl rfl ?_
    refine T_condD rfl (fun e3 => ?_) (fun e3 => ?_)
    · have h5 := szI_neg.1 e3
      refine T_auto TT_ok rfl ?_
      exact T_ansI TT_ok [(4, none)] rfl rfl ((szI_mono (szI_neg.2 (by omega)) (Nat.le_refl _)).symm)
    · have h5 := szI_in e3
      refine T_auto TT_ok rfl ?_
      exact X_inv (i + 1) ⟨hi, by omega⟩ (by omega) ⟨⟨_, rfl, SV.imp_refl _⟩, ⟨_, rfl, SV.imp_of (vI_eq (by omega))⟩, (by repeat (first | exact trivial | refine And.intro ⟨_, rfl, SV.imp_refl _⟩ ?_))⟩ (by repeat (first | exact trivial | refine And.intro ⟨_, rfl, Ch.imp_refl _⟩ ?_))
  · have hi : i = xs.length := by omega
    subst hi
    rw [List.take_length] at h4 ⊢
    refine T_auto TT_ok rfl ?_
    exact T_ansI TT_ok [(4, none)] rfl rfl (by rw [szI_yes (by omega)]; omega)
theorem eqTxS_q (xs : List GTx) (hb : D.bd bigN (dL 7 cTx GTx.z xs)) : Ans Tryz.prog 37 [] [vL 7 cTx GTx.z xs, vL 7 cTx GTx.z xs] [] (vB true) := by
  have hl : xs.length ≤ 1048576 := hb.1
  refine con_enter Tryz.func37 rfl rfl rfl fun B0 r_ D_ w0 => ?_
  refine T_auto TT_ok rfl ?_
  refine T_condN rfl (fun e => absurd rfl e) (fun _ => ?_)
  refine T_auto TT_ok rfl ?_
  refine T_loopA (ι := Nat) (fun i => [(5, vI i)]) (fun _ => []) (fun i => i ≤ xs.length) (fun i => xs.length - i) 0 [] [] rfl rfl (Nat.zero_le _) (by repeat (first | exact trivial | refine And.intro ⟨_, rfl, SV.imp_refl _⟩ ?_)) (by repeat (first | exact trivial | refine And.intro ⟨_, rfl, Ch.imp_refl _⟩ ?_)) ?_
  intro i h1
  refine T_auto TT_ok rfl ?_
  refine T_condD rfl (fun e => ?_) (fun e => ?_)
  · have hi : i < xs.length := by omega
    refine T_auto TT_ok rfl ?_
    refine T_drawA TT_ok [] rfl rfl fun B0 H0 => ?_
    refine DJ_Q TT_ok (eqTx_g _ (hb.2 i hi)) rfl rfl rfl rfl rfl rfl ?_
    refine DJ_endA TT_ok rfl ?_
    refine T_cond rfl (fun e => by cases e) (fun _ => ?_)
    refine T_auto TT_ok rfl ?_
    exact X_inv (i + 1) hi (by omega) (by repeat (first | exact trivial | refine And.intro ⟨_, rfl, SV.imp_refl _⟩ ?_)) (by repeat (first | exact trivial | refine And.intro ⟨_, rfl, Ch.imp_refl _⟩ ?_))
  · refine T_auto TT_ok rfl ?_
    exact T_ansB TT_ok [(4, none)] rfl rfl (rfl)
theorem toTxS_m (xs : List GTx) (hb : D.bd bigN (dL 7 cTx GTx.z xs)) : MkL Tryz.prog 31 [vL 7 cTx GTx.z xs] 7 cTx GTx.z xs := by
  have hl : xs.length ≤ 1048576 := hb.1
  refine con_enter Tryz.func31 rfl rfl rfl fun B0 r_ D_ w0 => ?_
  refine T_auto TT_ok rfl ?_
  refine RJ_make TT_ok 7 xs.length rfl rfl rfl rfl rfl rfl rfl ⟨by simp; omega, by unfold maxL; omega⟩ ?_
  refine RJ_auto TT_ok rfl ?_
  refine T_loopA (ι := Nat) (fun i => [(4, vI i)]) (fun i => [(7, .arr 7 xs.length fun k => cTx (if k < i then xs.getD k GTx.z else GTx.z))]) (fun i => i ≤ xs.length) (fun i => xs.length - i) 0 [7] [] rfl rfl (Nat.zero_le _) (by repeat (first | exact trivial | refine And.intro ⟨_, rfl, SV.imp_refl _⟩ ?_)) ⟨⟨_, rfl, Ch.imp_own rfl fun k hk => by rw [if_neg (Nat.not_lt_zero _)]; exact OwnI.c (OwnI.c (OwnI.c (OwnI.c (OwnI.n (OwnI.n (OwnI.c OwnI.e))))))⟩, trivial⟩ ?_
  intro i h1
  refine T_auto TT_ok rfl ?_
  refine T_condD rfl (fun e => ?_) (fun e => ?_)
  · have hi : i < xs.length := by omega
    refine T_auto TT_ok rfl ?_
    refine RJ_C TT_ok (Con.sw 902 2902 (Con.sw 901 2901 (toTx_g _ (hb.2 i hi)))) rfl rfl (SVs.imp_refl _) (fun _ => rfl) rfl rfl rfl fun _ _ => ?_
    refine RJ_auto TT_ok rfl ?_
    refine RJ_view (V_carve 7 i 7000 (l := [.v (.int .i64 0), .v (.int .i64 0), .v (.int .i64 0), .v (.int .i64 0), .s .o 5 0 fun i => cNote (([] : List GNote).getD i GNote.z), .s .o 5 0 fun i => cSet (([] : List GSet).getD i GSet.z), .v (.int .i64 0)]) rfl (by rw [if_neg (by omega : ¬ ((i : Int)).toNat < i)]; rfl) rfl rfl rfl rfl ⟨by omega, by omega⟩) ?_
    refine RJ_view (V_pe 21 rfl rfl rfl) ?_
    refine RJ_auto TT_ok rfl ?_
    refine X_view (V_fold 7000 4 2901 rfl rfl rfl rfl rfl rfl rfl) ?_
    refine X_view (V_fold 7000 5 2902 rfl rfl rfl rfl rfl rfl rfl) ?_
    refine X_view (V_uncarve 7 7000 rfl rfl rfl rfl rfl rfl rfl) ?_
    exact X_inv (i + 1) hi (by omega) (by repeat (first | exact trivial | refine And.intro ⟨_, rfl, SV.imp_refl _⟩ ?_)) ⟨⟨_, rfl, Ch.imp_arr fun k hk => fill_step (fun x => cTx x) rfl⟩, (by repeat (first | exact trivial | refine And.intro ⟨_, rfl, Ch.imp_refl _⟩ ?_))⟩
  · have hi : i = xs.length := by omega
    subst hi
    refine T_auto TT_ok rfl ?_
    refine T_view (V_sw 7 900) ?_
    refine T_ret TT_ok (()) [(2, none)] rfl rfl ?_ ?_ ?_
    · exact SVs.imp_refl _
    · exact ⟨⟨_, rfl, Ch.imp_arr fun k hk => by rw [if_pos hk]⟩, trivial⟩
    · trivial
theorem mTx_eq (x : GTx) : mTx x = 0+1+1+1+1+(5 * x.reads.length)+(5 * x.sets.length)+1 := by unfold mTx; omega
theorem markTxS_w (xs : List GTx) (hb : D.bd bigN (dL 7 cTx GTx.z xs)) (k0 : Int) (h1 : 0 ≤ k0) (h2 : k0 + (sumW mTx xs : Nat) ≤ 1000000000000) : Con Tryz.prog 40 [900] [.a (.g 900), vI k0] [(900, arrC 7 cTx GTx.z xs)] (fun _ : Unit => True) (fun _ => [vI (k0 + (sumW mTx xs : Nat))]) fun _ => [(900, arrC 7 cTx GTx.z (mkL mkTx mTx GTx.z xs k0))] := by
  have hl : xs.length ≤ 1048576 := hb.1
  refine con_enter Tryz.func40 rfl rfl rfl fun B0 r_ D_ w0 => ?_
  refine T_auto TT_ok rfl ?_
  refine T_loopA (ι := Nat) (fun i => [(5, vI i), (1, vI (k0 + (sumW mTx (xs.take i) : Nat)))]) (fun i => [(900, .arr 7 xs.length fun j => cTx (if j < i then mkTx (xs.getD j GTx.z) (k0 + (sumW mTx (xs.take j) : Nat)) else xs.getD j GTx.z))]) (fun i => i ≤ xs.length) (fun i => xs.length - i) 0 [900] [] rfl rfl (Nat.zero_le _) ⟨⟨_, rfl, SV.imp_refl _⟩, ⟨_, rfl, SV.imp_of (vI_eq (by simp [sumW]))⟩, trivial⟩ ⟨⟨_, rfl, Ch.imp_arr fun k hk => by rw [if_neg (Nat.not_lt_zero _)]⟩, trivial⟩ ?_
  intro i h3
  refine T_auto TT_ok rfl ?_
  refine T_condD rfl (fun e => ?_) (fun e => ?_)
  · have hi : i < xs.length := by omega
    have hs := sumW_take (w := mTx) (z := GTx.z) hi
    have hs2 := sumW_take_le (w := mTx) xs (i + 1)
    have hm := mTx_eq (xs.getD i GTx.z)
    have ht : sumW mTx (xs.take ((i : Int)).toNat) = sumW mTx (xs.take i) := rfl
    refine T_view (V_carve 900 i 7000 (l := [.v (.int .i64 (xs.getD i GTx.z).id), .v (.int .i64 (xs.getD i GTx.z).home), .v (.int .i64 (xs.getD i GTx.z).phase), .v (.int .i64 (xs.getD i GTx.z).done), .s .o 5 (xs.getD i GTx.z).reads.length fun j => cNote ((xs.getD i GTx.z).reads.getD j GNote.z), .s .o 5 (xs.getD i GTx.z).sets.length fun j => cSet ((xs.getD i GTx.z).sets.getD j GSet.z), .v (.int .i64 (xs.getD i GTx.z).stamp)]) rfl (by rw [if_neg (by omega : ¬ ((i : Int)).toNat < i)]; rfl) rfl rfl rfl rfl ⟨by omega, by omega⟩) ?_
    refine T_view (V_open 7000 4 7001 rfl rfl rfl rfl rfl rfl) ?_
    refine T_view (V_open 7000 5 7002 rfl rfl rfl rfl rfl rfl) ?_
    refine T_auto TT_ok rfl ?_
    refine RJ_view (V_pe 16 rfl rfl rfl) ?_
    refine RJ_auto TT_ok rfl ?_
    refine RJ_view (V_pe 23 rfl rfl rfl) ?_
    refine RJ_auto TT_ok rfl ?_
    refine RJ_view (V_pe 30 rfl rfl rfl) ?_
    refine RJ_auto TT_ok rfl ?_
    refine RJ_view (V_pe 37 rfl rfl rfl) ?_
    refine RJ_auto TT_ok rfl ?_
    refine RJ_view (V_pe 43 rfl rfl rfl) ?_
    refine RJ_auto TT_ok rfl ?_
    refine RJ_C TT_ok (Con.sw 900 7001 (markNoteS_w (xs.getD i GTx.z).reads (hb.2 i hi).2.2.2.2.1.1 _ (by omega) (by omega))) rfl rfl (SVs.imp_refl _) (fun _ => rfl) rfl rfl rfl fun _ _ => ?_
    refine RJ_auto TT_ok rfl ?_
    refine RJ_view (V_pe 50 rfl rfl rfl) ?_
    refine RJ_auto TT_ok rfl ?_
    refine RJ_C TT_ok (Con.sw 900 7002 (markSetS_w (xs.getD i GTx.z).sets (hb.2 i hi).2.2.2.2.2.1.1 _ (by omega) (by omega))) rfl rfl (SVs.imp_refl _) (fun _ => rfl) rfl rfl rfl fun _ _ => ?_
    refine RJ_auto TT_ok rfl ?_
    refine RJ_view (V_pe 58 rfl rfl rfl) ?_
    refine RJ_auto TT_ok rfl ?_
    refine X_view (V_fold 7000 4 7001 rfl rfl rfl rfl rfl rfl rfl) ?_
    refine X_view (V_fold 7000 5 7002 rfl rfl rfl rfl rfl rfl rfl) ?_
    refine X_view (V_uncarve 900 7000 rfl rfl rfl rfl rfl rfl rfl) ?_
    exact X_inv (i + 1) hi (by omega) ⟨⟨_, rfl, SV.imp_refl _⟩, ⟨_, rfl, SV.imp_of (vI_eq (by omega))⟩, (by repeat (first | exact trivial | refine And.intro ⟨_, rfl, SV.imp_refl _⟩ ?_))⟩ ⟨⟨_, rfl, Ch.imp_arr fun k hk => fill_step2 (i := i) (k := k) (fun x => cTx x) (fun j => mkTx (xs.getD j GTx.z) (k0 + (sumW mTx (xs.take j) : Nat))) (o := fun j => xs.getD j GTx.z) (by rfl)⟩, (by repeat (first | exact trivial | refine And.intro ⟨_, rfl, Ch.imp_refl _⟩ ?_))⟩
  · have hi : i = xs.length := by omega
    subst hi
    rw [List.take_length]
    refine T_auto TT_ok rfl ?_
    refine T_ret TT_ok (()) [(4, none)] rfl rfl ?_ ?_ ?_
    · exact SVs.imp_refl _
    · exact ⟨⟨_, rfl, Ch.imp_len (tab_length _ _).symm fun k hk => by rw [if_pos hk, mkL, tab_getD hk]⟩, trivial⟩
    · trivial
theorem heldTxS_w (xs : List GTx) (hb : D.bd bigN (dL 7 cTx GTx.z xs)) (k0 : Int) (h1 : 0 ≤ k0) (h2 : k0 + (sumW mTx xs : Nat) ≤ 1000000000000) : Ans Tryz.prog 43 [] [vL 7 cTx GTx.z (mkL mkTx mTx GTx.z xs k0), vI k0] [] (vI (k0 + (sumW mTx xs : Nat))) := by
  have hl : xs.length ≤ 1048576 := hb.1
  refine Con.wkA (args := [.a (.s .r 7 xs.length fun j => cTx (mkTx (xs.getD j GTx.z) (k0 + (sumW mTx (xs.take j) : Nat)))), vI k0]) ?_ ⟨_, _, rfl, imp_untabS, SVs.imp_refl _⟩
  refine con_enter Tryz.func43 rfl rfl rfl fun B0 r_ D_ w0 => ?_
  refine T_auto TT_ok rfl ?_
  refine T_loopA (ι := Nat) (fun i => [(5, vI i), (1, vI (k0 + (sumW mTx (xs.take i) : Nat)))]) (fun _ => []) (fun i => i ≤ xs.length) (fun i => xs.length - i) 0 [] [] rfl rfl (Nat.zero_le _) ⟨⟨_, rfl, SV.imp_refl _⟩, ⟨_, rfl, SV.imp_of (vI_eq (by simp [sumW]))⟩, trivial⟩ (by repeat (first | exact trivial | refine And.intro ⟨_, rfl, Ch.imp_refl _⟩ ?_)) ?_
  intro i h3
  refine T_auto TT_ok rfl ?_
  refine T_condD rfl (fun e => ?_) (fun e => ?_)
  · have hi : i < xs.length := by omega
    have hs := sumW_take (w := mTx) (z := GTx.z) hi
    have hs2 := sumW_take_le (w := mTx) xs (i + 1)
    have hm := mTx_eq (xs.getD i GTx.z)
    have ht : sumW mTx (xs.take ((i : Int)).toNat) = sumW mTx (xs.take i) := rfl
    refine T_auto TT_ok rfl ?_
    refine T_condN rfl (fun e => absurd rfl e) (fun _ => ?_)
    refine T_auto TT_ok rfl ?_
    refine T_condN rfl (fun e => absurd rfl e) (fun _ => ?_)
    refine T_auto TT_ok rfl ?_
    refine T_condN rfl (fun e => absurd rfl e) (fun _ => ?_)
    refine T_auto TT_ok rfl ?_
    refine T_condN rfl (fun e => absurd rfl e) (fun _ => ?_)
    refine T_auto TT_ok rfl ?_
    refine RJ_Q TT_ok (heldNoteS_w (xs.getD i GTx.z).reads (hb.2 i hi).2.2.2.2.1.1 _ (by (try simp only [Int.toNat_natCast] at *); omega) (by (try simp only [Int.toNat_natCast] at *); omega)) rfl rfl rfl rfl rfl ?_
    refine T_condD rfl (fun e => by (try simp only [Int.toNat_natCast] at *); omega) (fun _ => ?_)
    refine T_auto TT_ok rfl ?_
    refine RJ_Q TT_ok (heldSetS_w (xs.getD i GTx.z).sets (hb.2 i hi).2.2.2.2.2.1.1 _ (by (try simp only [Int.toNat_natCast] at *); omega) (by (try simp only [Int.toNat_natCast] at *); omega)) rfl rfl rfl rfl rfl ?_
    refine T_condD rfl (fun e => by (try simp only [Int.toNat_natCast] at *); omega) (fun _ => ?_)
    refine T_auto TT_ok rfl ?_
    refine T_condN rfl (fun e => absurd rfl e) (fun _ => ?_)
    refine T_auto TT_ok rfl ?_
    exact X_inv (i + 1) hi (by omega) ⟨⟨_, rfl, SV.imp_refl _⟩, ⟨_, rfl, SV.imp_of (vI_eq (by (try simp only [Int.toNat_natCast] at *); omega))⟩, (by repeat (first | exact trivial | refine And.intro ⟨_, rfl, SV.imp_refl _⟩ ?_))⟩ (by repeat (first | exact trivial | refine And.intro ⟨_, rfl, Ch.imp_refl _⟩ ?_))
  · have hi : i = xs.length := by omega
    subst hi
    rw [List.take_length]
    refine T_auto TT_ok rfl ?_
    exact T_ansI TT_ok [(4, none)] rfl rfl (rfl)
/-- its parts are own arrays -/
abbrev agClusterG (x : GCluster) (k1 k2 k3 : Nat) : SV := .ag [.v (.int .i64 x.config), .v (.int .i64 x.clock), .g k1, .g k2, .g k3, .v (.bool x.lost)]
theorem szCluster_g (x : GCluster) (hb : D.bds maxL (cCluster x)) (l : Int) (h1 : 0 ≤ l) (h2 : l ≤ 1048576) : Ans Tryz.prog 8 [] [vR (cCluster x), vI l] [] (vI (szI l (wCluster x))) := by
  unfold wCluster
  refine con_enter Tryz.func8 rfl rfl rfl fun B0 r_ D_ w0 => ?_
  refine T_auto TT_ok rfl ?_
  refine RJ_Q TT_ok (szPlaceS_q _ hb.2.2.1 _ h1 h2) rfl rfl rfl rfl rfl ?_
  refine T_condD rfl (fun e1 => ?_) (fun e1 => ?_)
  · refine T_auto TT_ok rfl ?_
    exact T_ansI TT_ok [(4, none)] rfl rfl (by exact (szI_mono e1 (by omega)).symm)
  have e1r := e1
  refine T_auto TT_ok rfl ?_
  refine RJ_Q TT_ok (szMachineS_q _ hb.2.2.2.1 _ (szI_in e1).1 (Int.le_trans (szI_in e1).2.1 h2)) rfl rfl rfl rfl rfl ?_
  refine T_condD rfl (fun e2 => ?_) (fun e2 => ?_)
  · refine T_auto TT_ok rfl ?_
    exact T_ansI TT_ok [(4, none)] rfl rfl (by rw [szI_ge e1r] at e2; exact (szI_mono e2 (by omega)).symm)
  have e2r := e2
  rw [szI_ge e1r] at e2r
  refine T_auto TT_ok rfl ?_
  refine RJ_Q TT_ok (szTxS_q _ hb.2.2.2.2.1 _ (szI_in e2).1 (Int.le_trans (szI_in e2).2.1 (Int.le_trans (szI_in e1).2.1 h2))) rfl rfl rfl rfl rfl ?_
  refine T_condD rfl (fun e3 => ?_) (fun e3 => ?_)
  · refine T_auto TT_ok rfl ?_
    exact T_ansI TT_ok [(4, none)] rfl rfl (by rw [szI_ge e1r, szI_ge e2r] at e3; exact (szI_mono e3 (by omega)).symm)
  have e3r := e3
  rw [szI_ge e1r, szI_ge e2r] at e3r
  refine T_auto TT_ok rfl ?_
  exact T_ansI TT_ok [(4, none)] rfl rfl (by rw [szI_ge e1r, szI_ge e2r])
theorem toCluster_g (x : GCluster) (hb : D.bds bigN (cCluster x)) : Con Tryz.prog 10 [] [vR (cCluster x)] [] (fun _ : Unit => True) (fun _ => [agClusterG x 901 902 903]) fun _ => [(901, arrC 1 cPlace GPlace.z x.places), (902, arrC 4 cMachine GMachine.z x.machines), (903, arrC 7 cTx GTx.z x.txs)] := by
  refine con_enter Tryz.func10 rfl rfl rfl fun B0 r_ D_ w0 => ?_
  refine T_auto TT_ok rfl ?_
  refine RJ_C TT_ok (Con.sw 900 901 (toPlaceS_m x.places hb.2.2.1)) rfl rfl (SVs.imp_refl _) (fun _ => rfl) rfl rfl rfl fun _ _ => ?_
  refine RJ_auto TT_ok rfl ?_
  refine RJ_C TT_ok (Con.sw 900 902 (toMachineS_m x.machines hb.2.2.2.1)) rfl rfl (SVs.imp_refl _) (fun _ => rfl) rfl rfl rfl fun _ _ => ?_
  refine RJ_auto TT_ok rfl ?_
  refine RJ_C TT_ok (Con.sw 900 903 (toTxS_m x.txs hb.2.2.2.2.1)) rfl rfl (SVs.imp_refl _) (fun _ => rfl) rfl rfl rfl fun _ _ => ?_
  refine RJ_auto TT_ok rfl ?_
  refine T_ret TT_ok (()) [(2, some 32)] rfl rfl ?_ ?_ ?_
  · exact SVs.imp_refl _
  · exact ⟨⟨_, rfl, Ch.imp_refl _⟩, ⟨_, rfl, Ch.imp_refl _⟩, ⟨_, rfl, Ch.imp_refl _⟩, trivial⟩
  · trivial
theorem eqCluster_g (x : GCluster) (hb : D.bds bigN (cCluster x)) : Ans Tryz.prog 12 [] [vR (cCluster x), vR (cCluster x)] [] (vB true) := by
  refine con_enter Tryz.func12 rfl rfl rfl fun B0 r_ D_ w0 => ?_
  refine T_auto TT_ok rfl ?_
  refine T_condN rfl (fun e => absurd rfl e) (fun _ => ?_)
  refine T_auto TT_ok rfl ?_
  refine T_condN rfl (fun e => absurd rfl e) (fun _ => ?_)
  refine T_auto TT_ok rfl ?_
  refine RJ_Q TT_ok (eqPlaceS_q _ hb.2.2.1) rfl rfl rfl rfl rfl ?_
  refine T_cond rfl (fun e => by cases e) (fun _ => ?_)
  refine T_auto TT_ok rfl ?_
  refine RJ_Q TT_ok (eqMachineS_q _ hb.2.2.2.1) rfl rfl rfl rfl rfl ?_
  refine T_cond rfl (fun e => by cases e) (fun _ => ?_)
  refine T_auto TT_ok rfl ?_
  refine RJ_Q TT_ok (eqTxS_q _ hb.2.2.2.2.1) rfl rfl rfl rfl rfl ?_
  refine T_cond rfl (fun e => by cases e) (fun _ => ?_)
  refine T_auto TT_ok rfl ?_
  refine T_condX rfl (fun e => by simp at e) (fun _ => ?_)
  refine T_auto TT_ok rfl ?_
  exact T_ansB TT_ok [(4, none)] rfl rfl (rfl)
theorem markCluster_g (x : GCluster) (hb : D.bds bigN (cCluster x)) (k0 : Int) (h1 : 0 ≤ k0) (h2 : k0 + (sumW mPlace x.places : Nat) + (sumW mMachine x.machines : Nat) + (sumW mTx x.txs : Nat) ≤ 1000000000000) : Con Tryz.prog 13 [901, 902, 903] [agClusterG x 901 902 903, vI k0] [(901, arrC 1 cPlace GPlace.z x.places), (902, arrC 4 cMachine GMachine.z x.machines), (903, arrC 7 cTx GTx.z x.txs)] (fun _ : Unit => True) (fun _ => [vI (k0 + (sumW mPlace x.places : Nat) + (sumW mMachine x.machines : Nat) + (sumW mTx x.txs : Nat))]) fun _ => [(901, arrC 1 cPlace GPlace.z (mkCluster x k0).places), (902, arrC 4 cMachine GMachine.z (mkCluster x k0).machines), (903, arrC 7 cTx GTx.z (mkCluster x k0).txs)] := by
  refine con_enter Tryz.func13 rfl rfl rfl fun B0 r_ D_ w0 => ?_
  refine T_auto TT_ok rfl ?_
  refine RJ_C TT_ok (Con.sw 900 901 (markPlaceS_w x.places hb.2.2.1 _ (by omega) (by omega))) rfl rfl (SVs.imp_refl _) (fun _ => rfl) rfl rfl rfl fun _ _ => ?_
  refine RJ_auto TT_ok rfl ?_
  refine RJ_C TT_ok (Con.sw 900 902 (markMachineS_w x.machines hb.2.2.2.1 _ (by omega) (by omega))) rfl rfl (SVs.imp_refl _) (fun _ => rfl) rfl rfl rfl fun _ _ => ?_
  refine RJ_auto TT_ok rfl ?_
  refine RJ_C TT_ok (Con.sw 900 903 (markTxS_w x.txs hb.2.2.2.2.1 _ (by omega) (by omega))) rfl rfl (SVs.imp_refl _) (fun _ => rfl) rfl rfl rfl fun _ _ => ?_
  refine RJ_auto TT_ok rfl ?_
  refine T_ret TT_ok (()) [(4, none)] rfl rfl ?_ ?_ ?_
  · exact SVs.imp_refl _
  · exact ⟨⟨_, rfl, Ch.imp_refl _⟩, ⟨_, rfl, Ch.imp_refl _⟩, ⟨_, rfl, Ch.imp_refl _⟩, trivial⟩
  · trivial
theorem heldCluster_g (x : GCluster) (hb : D.bds bigN (cCluster x)) (k0 : Int) (h1 : 0 ≤ k0) (h2 : k0 + (sumW mPlace x.places : Nat) + (sumW mMachine x.machines : Nat) + (sumW mTx x.txs : Nat) ≤ 1000000000000) : Ans Tryz.prog 14 [] [vR (cCluster (mkCluster x k0)), vI k0] [] (vI (k0 + (sumW mPlace x.places : Nat) + (sumW mMachine x.machines : Nat) + (sumW mTx x.txs : Nat))) := by
  refine con_enter Tryz.func14 rfl rfl rfl fun B0 r_ D_ w0 => ?_
  refine T_auto TT_ok rfl ?_
  refine RJ_Q TT_ok (heldPlaceS_w x.places hb.2.2.1 _ (by omega) (by omega)) rfl rfl rfl rfl rfl ?_
  refine T_condD rfl (fun e => by omega) (fun _ => ?_)
  refine T_auto TT_ok rfl ?_
  refine RJ_Q TT_ok (heldMachineS_w x.machines hb.2.2.2.1 _ (by omega) (by omega)) rfl rfl rfl rfl rfl ?_
  refine T_condD rfl (fun e => by omega) (fun _ => ?_)
  refine T_auto TT_ok rfl ?_
  refine RJ_Q TT_ok (heldTxS_w x.txs hb.2.2.2.2.1 _ (by omega) (by omega)) rfl rfl rfl rfl rfl ?_
  refine T_condD rfl (fun e => by omega) (fun _ => ?_)
  refine T_auto TT_ok rfl ?_
  exact T_ansI TT_ok [(4, none)] rfl rfl (rfl)
end Go.Proofs.YtpfcfepbhdkpdaaGreat
