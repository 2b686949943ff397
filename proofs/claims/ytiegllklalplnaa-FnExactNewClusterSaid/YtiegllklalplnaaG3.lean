
/-
  The laws' helpers, at kinds that hold slices, and at slices of them.
-/
import Derived.Test.YtiegllklalplnaaP9
namespace Go.Proofs.Ytiegllklalplnaa
open Go Go.RowKit
set_option linter.unusedVariables false
set_option linter.unusedSimpArgs false
set_option maxRecDepth 4000

/-- its parts are own arrays -/
abbrev agPlaceG (x : GPlace) (k1 : Nat) : SV := .ag [.g k1]
theorem eqPlace_g (x : GPlace) (hb : D.bds bigN (cPlace x)) : Ans Try.prog 83 [] [vR (cPlace x), vR (cPlace x)] [] (vB true) := by
  refine con_enter Try.func83 rfl rfl rfl fun B0 r_ D_ w0 => ?_
  refine T_auto TT_ok rfl ?_
  refine RJ_Q TT_ok (eqInt64S_q _ hb.1.1) rfl rfl rfl rfl rfl ?_
  refine T_cond rfl (fun e => by cases e) (fun _ => ?_)
  refine T_auto TT_ok rfl ?_
  exact T_ansB TT_ok [(4, none)] rfl rfl (rfl)
theorem eqPlaceS_q (xs : List GPlace) (hb : D.bd bigN (dL 1 cPlace GPlace.z xs)) : Ans Try.prog 50 [] [vL 1 cPlace GPlace.z xs, vL 1 cPlace GPlace.z xs] [] (vB true) := by
  have hl : xs.length ≤ 1048576 := hb.1
  refine con_enter Try.func50 rfl rfl rfl fun B0 r_ D_ w0 => ?_
  refine T_auto TT_ok rfl ?_
  refine T_condN rfl (fun e => absurd rfl e) (fun _ => ?_)
  refine T_auto TT_ok rfl ?_
  refine T_loopA (ι := Nat) (fun i => [(5, vI i)]) (fun _ => []) (fun i => i ≤ xs.length) (fun i => xs.length - i) 0 [] [] rfl rfl (Nat.zero_le _) (by repeat (first | exact trivial | refine And.intro ⟨_, rfl, SV.imp_refl _⟩ ?_)) (by repeat (first | exact trivial | refine And.intro ⟨_, rfl, Ch.imp_refl _⟩ ?_)) ?_
  intro i h1
  refine T_auto TT_ok rfl ?_
  refine T_condD rfl (fun e => ?_) (fun e => ?_)
  · have hi : i < xs.length := by omega
    refine T_auto TT_ok rfl ?_
    refine T_drawA TT_ok [] rfl rfl fun B0 H0 => ?_
    refine DJ_Q TT_ok (eqPlace_g _ (hb.2 i hi)) rfl rfl rfl rfl rfl rfl ?_
    refine DJ_endA TT_ok rfl ?_
    refine T_cond rfl (fun e => by cases e) (fun _ => ?_)
    refine T_auto TT_ok rfl ?_
    exact X_inv (i + 1) hi (by omega) (by repeat (first | exact trivial | refine And.intro ⟨_, rfl, SV.imp_refl _⟩ ?_)) (by repeat (first | exact trivial | refine And.intro ⟨_, rfl, Ch.imp_refl _⟩ ?_))
  · refine T_auto TT_ok rfl ?_
    exact T_ansB TT_ok [(4, none)] rfl rfl (rfl)
theorem mPlace_eq (x : GPlace) : mPlace x = 0+(x.machines.length) := by unfold mPlace; omega
theorem markPlaceS_w (xs : List GPlace) (hb : D.bd bigN (dL 1 cPlace GPlace.z xs)) (k0 : Int) (h1 : 0 ≤ k0) (h2 : k0 + (sumW mPlace xs : Nat) ≤ 1000000000000) : Con Try.prog 53 [900] [.a (.g 900), vI k0] [(900, arrC 1 cPlace GPlace.z xs)] (fun _ : Unit => True) (fun _ => [vI (k0 + (sumW mPlace xs : Nat))]) fun _ => [(900, arrC 1 cPlace GPlace.z (mkL mkPlace mPlace GPlace.z xs k0))] := by
  have hl : xs.length ≤ 1048576 := hb.1
  refine con_enter Try.func53 rfl rfl rfl fun B0 r_ D_ w0 => ?_
  refine T_auto TT_ok rfl ?_
  refine T_loopA (ι := Nat) (fun i => [(5, vI i), (1, vI (k0 + (sumW mPlace (xs.take i) : Nat)))]) (fun i => [(900, .arr 1 xs.length fun j => cPlace (if j < i then mkPlace (xs.getD j GPlace.z) (k0 + (sumW mPlace (xs.take j) : Nat)) else xs.getD j GPlace.z))]) (fun i => i ≤ xs.length) (fun i => xs.length - i) 0 [900] [] rfl rfl (Nat.zero_le _) ⟨⟨_, rfl, SV.imp_refl _⟩, ⟨_, rfl, SV.imp_of (vI_eq (by simp [sumW]))⟩, trivial⟩ ⟨⟨_, rfl, Ch.imp_arr fun k hk => by rw [if_neg (Nat.not_lt_zero _)]⟩, trivial⟩ ?_
  intro i h3
  refine T_auto TT_ok rfl ?_
  refine T_condD rfl (fun e => ?_) (fun e => ?_)
  · have hi : i < xs.length := by omega
    have hs := sumW_take (w := mPlace) (z := GPlace.z) hi
    have hs2 := sumW_take_le (w := mPlace) xs (i + 1)
    have hm := mPlace_eq (xs.getD i GPlace.z)
    have ht : sumW mPlace (xs.take ((i : Int)).toNat) = sumW mPlace (xs.take i) := rfl
    refine T_view (V_carve 900 i 7000 (l := [.s .o 1 (xs.getD i GPlace.z).machines.length fun j => cInt ((xs.getD i GPlace.z).machines.getD j 0)]) rfl (by rw [if_neg (by omega : ¬ ((i : Int)).toNat < i)]; rfl) rfl rfl rfl rfl ⟨by omega, by omega⟩) ?_
    refine T_view (V_open 7000 0 7001 rfl rfl rfl rfl rfl rfl) ?_
    refine T_auto TT_ok rfl ?_
    refine RJ_view (V_pe 15 rfl rfl rfl) ?_
    refine RJ_auto TT_ok rfl ?_
    refine RJ_C TT_ok (Con.sw 900 7001 (markInt64S_w (xs.getD i GPlace.z).machines (hb.2 i hi).1.1 _ (by omega) (by omega))) rfl rfl (SVs.imp_refl _) (fun _ => rfl) rfl rfl rfl fun _ _ => ?_
    refine RJ_auto TT_ok rfl ?_
    refine X_view (V_fold 7000 0 7001 rfl rfl rfl rfl rfl rfl rfl) ?_
    refine X_view (V_uncarve 900 7000 rfl rfl rfl rfl rfl rfl rfl) ?_
    exact X_inv (i + 1) hi (by omega) ⟨⟨_, rfl, SV.imp_refl _⟩, ⟨_, rfl, SV.imp_of (vI_eq (by omega))⟩, (by repeat (first | exact trivial | refine And.intro ⟨_, rfl, SV.imp_refl _⟩ ?_))⟩ ⟨⟨_, rfl, Ch.imp_arr fun k hk => fill_step2 (i := i) (k := k) (fun x => cPlace x) (fun j => mkPlace (xs.getD j GPlace.z) (k0 + (sumW mPlace (xs.take j) : Nat))) (o := fun j => xs.getD j GPlace.z) (by rfl)⟩, (by repeat (first | exact trivial | refine And.intro ⟨_, rfl, Ch.imp_refl _⟩ ?_))⟩
  · have hi : i = xs.length := by omega
    subst hi
    rw [List.take_length]
    refine T_auto TT_ok rfl ?_
    refine T_ret TT_ok (()) [(4, none)] rfl rfl ?_ ?_ ?_
    · exact SVs.imp_refl _
    · exact ⟨⟨_, rfl, Ch.imp_len (tab_length _ _).symm fun k hk => by rw [if_pos hk, mkL, tab_getD hk]⟩, trivial⟩
    · trivial
theorem heldPlaceS_w (xs : List GPlace) (hb : D.bd bigN (dL 1 cPlace GPlace.z xs)) (k0 : Int) (h1 : 0 ≤ k0) (h2 : k0 + (sumW mPlace xs : Nat) ≤ 1000000000000) : Ans Try.prog 56 [] [vL 1 cPlace GPlace.z (mkL mkPlace mPlace GPlace.z xs k0), vI k0] [] (vI (k0 + (sumW mPlace xs : Nat))) := by
  have hl : xs.length ≤ 1048576 := hb.1
  refine Con.wkA (args := [.a (.s .r 1 xs.length fun j => cPlace (mkPlace (xs.getD j GPlace.z) (k0 + (sumW mPlace (xs.take j) : Nat)))), vI k0]) ?_ ⟨_, _, rfl, imp_untabS, SVs.imp_refl _⟩
  refine con_enter Try.func56 rfl rfl rfl fun B0 r_ D_ w0 => ?_
  refine T_auto TT_ok rfl ?_
  refine T_loopA (ι := Nat) (fun i => [(5, vI i), (1, vI (k0 + (sumW mPlace (xs.take i) : Nat)))]) (fun _ => []) (fun i => i ≤ xs.length) (fun i => xs.length - i) 0 [] [] rfl rfl (Nat.zero_le _) ⟨⟨_, rfl, SV.imp_refl _⟩, ⟨_, rfl, SV.imp_of (vI_eq (by simp [sumW]))⟩, trivial⟩ (by repeat (first | exact trivial | refine And.intro ⟨_, rfl, Ch.imp_refl _⟩ ?_)) ?_
  intro i h3
  refine T_auto TT_ok rfl ?_
  refine T_condD rfl (fun e => ?_) (fun e => ?_)
  · have hi : i < xs.length := by omega
    have hs := sumW_take (w := mPlace) (z := GPlace.z) hi
    have hs2 := sumW_take_le (w := mPlace) xs (i + 1)
    have hm := mPlace_eq (xs.getD i GPlace.z)
    have ht : sumW mPlace (xs.take ((i : Int)).toNat) = sumW mPlace (xs.take i) := rfl
    refine T_auto TT_ok rfl ?_
    refine RJ_Q TT_ok (heldInt64S_w (xs.getD i GPlace.z).machines (hb.2 i hi).1.1 _ (by (try simp only [Int.toNat_natCast] at *); omega) (by (try simp only [Int.toNat_natCast] at *); omega)) rfl rfl rfl rfl rfl ?_
    refine T_condD rfl (fun e => by (try simp only [Int.toNat_natCast] at *); omega) (fun _ => ?_)
    refine T_auto TT_ok rfl ?_
    exact X_inv (i + 1) hi (by omega) ⟨⟨_, rfl, SV.imp_refl _⟩, ⟨_, rfl, SV.imp_of (vI_eq (by (try simp only [Int.toNat_natCast] at *); omega))⟩, (by repeat (first | exact trivial | refine And.intro ⟨_, rfl, SV.imp_refl _⟩ ?_))⟩ (by repeat (first | exact trivial | refine And.intro ⟨_, rfl, Ch.imp_refl _⟩ ?_))
  · have hi : i = xs.length := by omega
    subst hi
    rw [List.take_length]
    refine T_auto TT_ok rfl ?_
    exact T_ansI TT_ok [(4, none)] rfl rfl (rfl)
/-- its parts are own arrays -/
abbrev agRecordG (x : GRecord) (k1 : Nat) : SV := .ag [.v (.int .i64 x.kind), .v (.int .i64 x.tx), .v (.int .i64 x.region), .g k1]
theorem eqRecord_g (x : GRecord) (hb : D.bds bigN (cRecord x)) : Ans Try.prog 116 [] [vR (cRecord x), vR (cRecord x)] [] (vB true) := by
  refine con_enter Try.func116 rfl rfl rfl fun B0 r_ D_ w0 => ?_
  refine T_auto TT_ok rfl ?_
  refine T_condN rfl (fun e => absurd rfl e) (fun _ => ?_)
  refine T_auto TT_ok rfl ?_
  refine T_condN rfl (fun e => absurd rfl e) (fun _ => ?_)
  refine T_auto TT_ok rfl ?_
  refine T_condN rfl (fun e => absurd rfl e) (fun _ => ?_)
  refine T_auto TT_ok rfl ?_
  refine RJ_Q TT_ok (eqSetS_q _ hb.2.2.2.1.1) rfl rfl rfl rfl rfl ?_
  refine T_cond rfl (fun e => by cases e) (fun _ => ?_)
  refine T_auto TT_ok rfl ?_
  exact T_ansB TT_ok [(4, none)] rfl rfl (rfl)
theorem eqRecordS_q (xs : List GRecord) (hb : D.bd bigN (dL 4 cRecord GRecord.z xs)) : Ans Try.prog 107 [] [vL 4 cRecord GRecord.z xs, vL 4 cRecord GRecord.z xs] [] (vB true) := by
  have hl : xs.length ≤ 1048576 := hb.1
  refine con_enter Try.func107 rfl rfl rfl fun B0 r_ D_ w0 => ?_
  refine T_auto TT_ok rfl ?_
  refine T_condN rfl (fun e => absurd rfl e) (fun _ => ?_)
  refine T_auto TT_ok rfl ?_
  refine T_loopA (ι := Nat) (fun i => [(5, vI i)]) (fun _ => []) (fun i => i ≤ xs.length) (fun i => xs.length - i) 0 [] [] rfl rfl (Nat.zero_le _) (by repeat (first | exact trivial | refine And.intro ⟨_, rfl, SV.imp_refl _⟩ ?_)) (by repeat (first | exact trivial | refine And.intro ⟨_, rfl, Ch.imp_refl _⟩ ?_)) ?_
  intro i h1
  refine T_auto TT_ok rfl ?_
  refine T_condD rfl (fun e => ?_) (fun e => ?_)
  · have hi : i < xs.length := by omega
    refine T_auto TT_ok rfl ?_
    refine T_drawA TT_ok [] rfl rfl fun B0 H0 => ?_
    refine DJ_Q TT_ok (eqRecord_g _ (hb.2 i hi)) rfl rfl rfl rfl rfl rfl ?_
    refine DJ_endA TT_ok rfl ?_
    refine T_cond rfl (fun e => by cases e) (fun _ => ?_)
    refine T_auto TT_ok rfl ?_
    exact X_inv (i + 1) hi (by omega) (by repeat (first | exact trivial | refine And.intro ⟨_, rfl, SV.imp_refl _⟩ ?_)) (by repeat (first | exact trivial | refine And.intro ⟨_, rfl, Ch.imp_refl _⟩ ?_))
  · refine T_auto TT_ok rfl ?_
    exact T_ansB TT_ok [(4, none)] rfl rfl (rfl)
theorem mRecord_eq (x : GRecord) : mRecord x = 0+1+1+1+(5 * x.sets.length) := by unfold mRecord; omega
theorem markRecordS_w (xs : List GRecord) (hb : D.bd bigN (dL 4 cRecord GRecord.z xs)) (k0 : Int) (h1 : 0 ≤ k0) (h2 : k0 + (sumW mRecord xs : Nat) ≤ 1000000000000) : Con Try.prog 87 [900] [.a (.g 900), vI k0] [(900, arrC 4 cRecord GRecord.z xs)] (fun _ : Unit => True) (fun _ => [vI (k0 + (sumW mRecord xs : Nat))]) fun _ => [(900, arrC 4 cRecord GRecord.z (mkL mkRecord mRecord GRecord.z xs k0))] := by
  have hl : xs.length ≤ 1048576 := hb.1
  refine con_enter Try.func87 rfl rfl rfl fun B0 r_ D_ w0 => ?_
  refine T_auto TT_ok rfl ?_
  refine T_loopA (ι := Nat) (fun i => [(5, vI i), (1, vI (k0 + (sumW mRecord (xs.take i) : Nat)))]) (fun i => [(900, .arr 4 xs.length fun j => cRecord (if j < i then mkRecord (xs.getD j GRecord.z) (k0 + (sumW mRecord (xs.take j) : Nat)) else xs.getD j GRecord.z))]) (fun i => i ≤ xs.length) (fun i => xs.length - i) 0 [900] [] rfl rfl (Nat.zero_le _) ⟨⟨_, rfl, SV.imp_refl _⟩, ⟨_, rfl, SV.imp_of (vI_eq (by simp [sumW]))⟩, trivial⟩ ⟨⟨_, rfl, Ch.imp_arr fun k hk => by rw [if_neg (Nat.not_lt_zero _)]⟩, trivial⟩ ?_
  intro i h3
  refine T_auto TT_ok rfl ?_
  refine T_condD rfl (fun e => ?_) (fun e => ?_)
  · have hi : i < xs.length := by omega
    have hs := sumW_take (w := mRecord) (z := GRecord.z) hi
    have hs2 := sumW_take_le (w := mRecord) xs (i + 1)
    have hm := mRecord_eq (xs.getD i GRecord.z)
    have ht : sumW mRecord (xs.take ((i : Int)).toNat) = sumW mRecord (xs.take i) := rfl
    refine T_view (V_carve 900 i 7000 (l := [.v (.int .i64 (xs.getD i GRecord.z).kind), .v (.int .i64 (xs.getD i GRecord.z).tx), .v (.int .i64 (xs.getD i GRecord.z).region), .s .o 5 (xs.getD i GRecord.z).sets.length fun j => cSet ((xs.getD i GRecord.z).sets.getD j GSet.z)]) rfl (by rw [if_neg (by omega : ¬ ((i : Int)).toNat < i)]; rfl) rfl rfl rfl rfl ⟨by omega, by omega⟩) ?_
    refine T_view (V_open 7000 3 7001 rfl rfl rfl rfl rfl rfl) ?_
    refine T_auto TT_ok rfl ?_
    refine RJ_view (V_pe 16 rfl rfl rfl) ?_
    refine RJ_auto TT_ok rfl ?_
    refine RJ_view (V_pe 23 rfl rfl rfl) ?_
    refine RJ_auto TT_ok rfl ?_
    refine RJ_view (V_pe 30 rfl rfl rfl) ?_
    refine RJ_auto TT_ok rfl ?_
    refine RJ_view (V_pe 36 rfl rfl rfl) ?_
    refine RJ_auto TT_ok rfl ?_
    refine RJ_C TT_ok (Con.sw 900 7001 (markSetS_w (xs.getD i GRecord.z).sets (hb.2 i hi).2.2.2.1.1 _ (by omega) (by omega))) rfl rfl (SVs.imp_refl _) (fun _ => rfl) rfl rfl rfl fun _ _ => ?_
    refine RJ_auto TT_ok rfl ?_
    refine X_view (V_fold 7000 3 7001 rfl rfl rfl rfl rfl rfl rfl) ?_
    refine X_view (V_uncarve 900 7000 rfl rfl rfl rfl rfl rfl rfl) ?_
    exact X_inv (i + 1) hi (by omega) ⟨⟨_, rfl, SV.imp_refl _⟩, ⟨_, rfl, SV.imp_of (vI_eq (by omega))⟩, (by repeat (first | exact trivial | refine And.intro ⟨_, rfl, SV.imp_refl _⟩ ?_))⟩ ⟨⟨_, rfl, Ch.imp_arr fun k hk => fill_step2 (i := i) (k := k) (fun x => cRecord x) (fun j => mkRecord (xs.getD j GRecord.z) (k0 + (sumW mRecord (xs.take j) : Nat))) (o := fun j => xs.getD j GRecord.z) (by rfl)⟩, (by repeat (first | exact trivial | refine And.intro ⟨_, rfl, Ch.imp_refl _⟩ ?_))⟩
  · have hi : i = xs.length := by omega
    subst hi
    rw [List.take_length]
    refine T_auto TT_ok rfl ?_
    refine T_ret TT_ok (()) [(4, none)] rfl rfl ?_ ?_ ?_
    · exact SVs.imp_refl _
    · exact ⟨⟨_, rfl, Ch.imp_len (tab_length _ _).symm fun k hk => by rw [if_pos hk, mkL, tab_getD hk]⟩, trivial⟩
    · trivial
theorem heldRecordS_w (xs : List GRecord) (hb : D.bd bigN (dL 4 cRecord GRecord.z xs)) (k0 : Int) (h1 : 0 ≤ k0) (h2 : k0 + (sumW mRecord xs : Nat) ≤ 1000000000000) : Ans Try.prog 90 [] [vL 4 cRecord GRecord.z (mkL mkRecord mRecord GRecord.z xs k0), vI k0] [] (vI (k0 + (sumW mRecord xs : Nat))) := by
  have hl : xs.length ≤ 1048576 := hb.1
  refine Con.wkA (args := [.a (.s .r 4 xs.length fun j => cRecord (mkRecord (xs.getD j GRecord.z) (k0 + (sumW mRecord (xs.take j) : Nat)))), vI k0]) ?_ ⟨_, _, rfl, imp_untabS, SVs.imp_refl _⟩
  refine con_enter Try.func90 rfl rfl rfl fun B0 r_ D_ w0 => ?_
  refine T_auto TT_ok rfl ?_
  refine T_loopA (ι := Nat) (fun i => [(5, vI i), (1, vI (k0 + (sumW mRecord (xs.take i) : Nat)))]) (fun _ => []) (fun i => i ≤ xs.length) (fun i => xs.length - i) 0 [] [] rfl rfl (Nat.zero_le _) ⟨⟨_, rfl, SV.imp_refl _⟩, ⟨_, rfl, SV.imp_of (vI_eq (by simp [sumW]))⟩, trivial⟩ (by repeat (first | exact trivial | refine And.intro ⟨_, rfl, Ch.imp_refl _⟩ ?_)) ?_
  intro i h3
  refine T_auto TT_ok rfl ?_
  refine T_condD rfl (fun e => ?_) (fun e => ?_)
  · have hi : i < xs.length := by omega
    have hs := sumW_take (w := mRecord) (z := GRecord.z) hi
    have hs2 := sumW_take_le (w := mRecord) xs (i + 1)
    have hm := mRecord_eq (xs.getD i GRecord.z)
    have ht : sumW mRecord (xs.take ((i : Int)).toNat) = sumW mRecord (xs.take i) := rfl
    refine T_auto TT_ok rfl ?_
    refine T_condN rfl (fun e => absurd rfl e) (fun _ => ?_)
    refine T_auto TT_ok rfl ?_
    refine T_condN rfl (fun e => absurd rfl e) (fun _ => ?_)
    refine T_auto TT_ok rfl ?_
    refine T_condN rfl (fun e => absurd rfl e) (fun _ => ?_)
    refine T_auto TT_ok rfl ?_
    refine RJ_Q TT_ok (heldSetS_w (xs.getD i GRecord.z).sets (hb.2 i hi).2.2.2.1.1 _ (by (try simp only [Int.toNat_natCast] at *); omega) (by (try simp only [Int.toNat_natCast] at *); omega)) rfl rfl rfl rfl rfl ?_
    refine T_condD rfl (fun e => by (try simp only [Int.toNat_natCast] at *); omega) (fun _ => ?_)
    refine T_auto TT_ok rfl ?_
    exact X_inv (i + 1) hi (by omega) ⟨⟨_, rfl, SV.imp_refl _⟩, ⟨_, rfl, SV.imp_of (vI_eq (by (try simp only [Int.toNat_natCast] at *); omega))⟩, (by repeat (first | exact trivial | refine And.intro ⟨_, rfl, SV.imp_refl _⟩ ?_))⟩ (by repeat (first | exact trivial | refine And.intro ⟨_, rfl, Ch.imp_refl _⟩ ?_))
  · have hi : i = xs.length := by omega
    subst hi
    rw [List.take_length]
    refine T_auto TT_ok rfl ?_
    exact T_ansI TT_ok [(4, none)] rfl rfl (rfl)
/-- its parts are own arrays -/
abbrev agCopyG (x : GCopy) (k1 : Nat) : SV := .ag [.v (.int .i64 x.region), .g k1]
theorem eqCopy_g (x : GCopy) (hb : D.bds bigN (cCopy x)) : Ans Try.prog 115 [] [vR (cCopy x), vR (cCopy x)] [] (vB true) := by
  refine con_enter Try.func115 rfl rfl rfl fun B0 r_ D_ w0 => ?_
  refine T_auto TT_ok rfl ?_
  refine T_condN rfl (fun e => absurd rfl e) (fun _ => ?_)
  refine T_auto TT_ok rfl ?_
  refine RJ_Q TT_ok (eqCellS_q _ hb.2.1.1) rfl rfl rfl rfl rfl ?_
  refine T_cond rfl (fun e => by cases e) (fun _ => ?_)
  refine T_auto TT_ok rfl ?_
  exact T_ansB TT_ok [(4, none)] rfl rfl (rfl)
theorem eqCopyS_q (xs : List GCopy) (hb : D.bd bigN (dL 2 cCopy GCopy.z xs)) : Ans Try.prog 106 [] [vL 2 cCopy GCopy.z xs, vL 2 cCopy GCopy.z xs] [] (vB true) := by
  have hl : xs.length ≤ 1048576 := hb.1
  refine con_enter Try.func106 rfl rfl rfl fun B0 r_ D_ w0 => ?_
  refine T_auto TT_ok rfl ?_
  refine T_condN rfl (fun e => absurd rfl e) (fun _ => ?_)
  refine T_auto TT_ok rfl ?_
  refine T_loopA (ι := Nat) (fun i => [(5, vI i)]) (fun _ => []) (fun i => i ≤ xs.length) (fun i => xs.length - i) 0 [] [] rfl rfl (Nat.zero_le _) (by repeat (first | exact trivial | refine And.intro ⟨_, rfl, SV.imp_refl _⟩ ?_)) (by repeat (first | exact trivial | refine And.intro ⟨_, rfl, Ch.imp_refl _⟩ ?_)) ?_
  intro i h1
  refine T_auto TT_ok rfl ?_
  refine T_condD rfl (fun e => ?_) (fun e => ?_)
  · have hi : i < xs.length := by omega
    refine T_auto TT_ok rfl ?_
    refine T_drawA TT_ok [] rfl rfl fun B0 H0 => ?_
    refine DJ_Q TT_ok (eqCopy_g _ (hb.2 i hi)) rfl rfl rfl rfl rfl rfl ?_
    refine DJ_endA TT_ok rfl ?_
    refine T_cond rfl (fun e => by cases e) (fun _ => ?_)
    refine T_auto TT_ok rfl ?_
    exact X_inv (i + 1) hi (by omega) (by repeat (first | exact trivial | refine And.intro ⟨_, rfl, SV.imp_refl _⟩ ?_)) (by repeat (first | exact trivial | refine And.intro ⟨_, rfl, Ch.imp_refl _⟩ ?_))
  · refine T_auto TT_ok rfl ?_
    exact T_ansB TT_ok [(4, none)] rfl rfl (rfl)
theorem mCopy_eq (x : GCopy) : mCopy x = 0+1+(2 * x.cells.length) := by unfold mCopy; omega
theorem markCopyS_w (xs : List GCopy) (hb : D.bd bigN (dL 2 cCopy GCopy.z xs)) (k0 : Int) (h1 : 0 ≤ k0) (h2 : k0 + (sumW mCopy xs : Nat) ≤ 1000000000000) : Con Try.prog 86 [900] [.a (.g 900), vI k0] [(900, arrC 2 cCopy GCopy.z xs)] (fun _ : Unit => True) (fun _ => [vI (k0 + (sumW mCopy xs : Nat))]) fun _ => [(900, arrC 2 cCopy GCopy.z (mkL mkCopy mCopy GCopy.z xs k0))] := by
  have hl : xs.length ≤ 1048576 := hb.1
  refine con_enter Try.func86 rfl rfl rfl fun B0 r_ D_ w0 => ?_
  refine T_auto TT_ok rfl ?_
  refine T_loopA (ι := Nat) (fun i => [(5, vI i), (1, vI (k0 + (sumW mCopy (xs.take i) : Nat)))]) (fun i => [(900, .arr 2 xs.length fun j => cCopy (if j < i then mkCopy (xs.getD j GCopy.z) (k0 + (sumW mCopy (xs.take j) : Nat)) else xs.getD j GCopy.z))]) (fun i => i ≤ xs.length) (fun i => xs.length - i) 0 [900] [] rfl rfl (Nat.zero_le _) ⟨⟨_, rfl, SV.imp_refl _⟩, ⟨_, rfl, SV.imp_of (vI_eq (by simp [sumW]))⟩, trivial⟩ ⟨⟨_, rfl, Ch.imp_arr fun k hk => by rw [if_neg (Nat.not_lt_zero _)]⟩, trivial⟩ ?_
  intro i h3
  refine T_auto TT_ok rfl ?_
  refine T_condD rfl (fun e => ?_) (fun e => ?_)
  · have hi : i < xs.length := by omega
    have hs := sumW_take (w := mCopy) (z := GCopy.z) hi
    have hs2 := sumW_take_le (w := mCopy) xs (i + 1)
    have hm := mCopy_eq (xs.getD i GCopy.z)
    have ht : sumW mCopy (xs.take ((i : Int)).toNat) = sumW mCopy (xs.take i) := rfl
    refine T_view (V_carve 900 i 7000 (l := [.v (.int .i64 (xs.getD i GCopy.z).region), .s .o 2 (xs.getD i GCopy.z).cells.length fun j => cCell ((xs.getD i GCopy.z).cells.getD j GCell.z)]) rfl (by rw [if_neg (by omega : ¬ ((i : Int)).toNat < i)]; rfl) rfl rfl rfl rfl ⟨by omega, by omega⟩) ?_
    refine T_view (V_open 7000 1 7001 rfl rfl rfl rfl rfl rfl) ?_
    refine T_auto TT_ok rfl ?_
    refine RJ_view (V_pe 16 rfl rfl rfl) ?_
    refine RJ_auto TT_ok rfl ?_
    refine RJ_view (V_pe 22 rfl rfl rfl) ?_
    refine RJ_auto TT_ok rfl ?_
    refine RJ_C TT_ok (Con.sw 900 7001 (markCellS_w (xs.getD i GCopy.z).cells (hb.2 i hi).2.1.1 _ (by omega) (by omega))) rfl rfl (SVs.imp_refl _) (fun _ => rfl) rfl rfl rfl fun _ _ => ?_
    refine RJ_auto TT_ok rfl ?_
    refine X_view (V_fold 7000 1 7001 rfl rfl rfl rfl rfl rfl rfl) ?_
    refine X_view (V_uncarve 900 7000 rfl rfl rfl rfl rfl rfl rfl) ?_
    exact X_inv (i + 1) hi (by omega) ⟨⟨_, rfl, SV.imp_refl _⟩, ⟨_, rfl, SV.imp_of (vI_eq (by omega))⟩, (by repeat (first | exact trivial | refine And.intro ⟨_, rfl, SV.imp_refl _⟩ ?_))⟩ ⟨⟨_, rfl, Ch.imp_arr fun k hk => fill_step2 (i := i) (k := k) (fun x => cCopy x) (fun j => mkCopy (xs.getD j GCopy.z) (k0 + (sumW mCopy (xs.take j) : Nat))) (o := fun j => xs.getD j GCopy.z) (by rfl)⟩, (by repeat (first | exact trivial | refine And.intro ⟨_, rfl, Ch.imp_refl _⟩ ?_))⟩
  · have hi : i = xs.length := by omega
    subst hi
    rw [List.take_length]
    refine T_auto TT_ok rfl ?_
    refine T_ret TT_ok (()) [(4, none)] rfl rfl ?_ ?_ ?_
    · exact SVs.imp_refl _
    · exact ⟨⟨_, rfl, Ch.imp_len (tab_length _ _).symm fun k hk => by rw [if_pos hk, mkL, tab_getD hk]⟩, trivial⟩
    · trivial
theorem heldCopyS_w (xs : List GCopy) (hb : D.bd bigN (dL 2 cCopy GCopy.z xs)) (k0 : Int) (h1 : 0 ≤ k0) (h2 : k0 + (sumW mCopy xs : Nat) ≤ 1000000000000) : Ans Try.prog 89 [] [vL 2 cCopy GCopy.z (mkL mkCopy mCopy GCopy.z xs k0), vI k0] [] (vI (k0 + (sumW mCopy xs : Nat))) := by
  have hl : xs.length ≤ 1048576 := hb.1
  refine Con.wkA (args := [.a (.s .r 2 xs.length fun j => cCopy (mkCopy (xs.getD j GCopy.z) (k0 + (sumW mCopy (xs.take j) : Nat)))), vI k0]) ?_ ⟨_, _, rfl, imp_untabS, SVs.imp_refl _⟩
  refine con_enter Try.func89 rfl rfl rfl fun B0 r_ D_ w0 => ?_
  refine T_auto TT_ok rfl ?_
  refine T_loopA (ι := Nat) (fun i => [(5, vI i), (1, vI (k0 + (sumW mCopy (xs.take i) : Nat)))]) (fun _ => []) (fun i => i ≤ xs.length) (fun i => xs.length - i) 0 [] [] rfl rfl (Nat.zero_le _) ⟨⟨_, rfl, SV.imp_refl _⟩, ⟨_, rfl, SV.imp_of (vI_eq (by simp [sumW]))⟩, trivial⟩ (by repeat (first | exact trivial | refine And.intro ⟨_, rfl, Ch.imp_refl _⟩ ?_)) ?_
  intro i h3
  refine T_auto TT_ok rfl ?_
  refine T_condD rfl (fun e => ?_) (fun e => ?_)
  · have hi : i < xs.length := by omega
    have hs := sumW_take (w := mCopy) (z := GCopy.z) hi
    have hs2 := sumW_take_le (w := mCopy) xs (i + 1)
    have hm := mCopy_eq (xs.getD i GCopy.z)
    have ht : sumW mCopy (xs.take ((i : Int)).toNat) = sumW mCopy (xs.take i) := rfl
    refine T_auto TT_ok rfl ?_
    refine T_condN rfl (fun e => absurd rfl e) (fun _ => ?_)
    refine T_auto TT_ok rfl ?_
    refine RJ_Q TT_ok (heldCellS_w (xs.getD i GCopy.z).cells (hb.2 i hi).2.1.1 _ (by (try simp only [Int.toNat_natCast] at *); omega) (by (try simp only [Int.toNat_natCast] at *); omega)) rfl rfl rfl rfl rfl ?_
    refine T_condD rfl (fun e => by (try simp only [Int.toNat_natCast] at *); omega) (fun _ => ?_)
    refine T_auto TT_ok rfl ?_
    exact X_inv (i + 1) hi (by omega) ⟨⟨_, rfl, SV.imp_refl _⟩, ⟨_, rfl, SV.imp_of (vI_eq (by (try simp only [Int.toNat_natCast] at *); omega))⟩, (by repeat (first | exact trivial | refine And.intro ⟨_, rfl, SV.imp_refl _⟩ ?_))⟩ (by repeat (first | exact trivial | refine And.intro ⟨_, rfl, Ch.imp_refl _⟩ ?_))
  · have hi : i = xs.length := by omega
    subst hi
    rw [List.take_length]
    refine T_auto TT_ok rfl ?_
    exact T_ansI TT_ok [(4, none)] rfl rfl (rfl)
/-- its parts are own arrays -/
abbrev agMachineG (x : GMachine) (k1 k2 k3 : Nat) : SV := .ag [.v (.bool x.alive), .g k1, .g k2, .g k3]
theorem eqMachine_g (x : GMachine) (hb : D.bds bigN (cMachine x)) : Ans Try.prog 84 [] [vR (cMachine x), vR (cMachine x)] [] (vB true) := by
  refine con_enter Try.func84 rfl rfl rfl fun B0 r_ D_ w0 => ?_
  refine T_auto TT_ok rfl ?_
  refine T_condX rfl (fun e => by simp at e) (fun _ => ?_)
  refine T_auto TT_ok rfl ?_
  refine RJ_Q TT_ok (eqCopyS_q _ hb.2.1) rfl rfl rfl rfl rfl ?_
  refine T_cond rfl (fun e => by cases e) (fun _ => ?_)
  refine T_auto TT_ok rfl ?_
  refine RJ_Q TT_ok (eqRecordS_q _ hb.2.2.1) rfl rfl rfl rfl rfl ?_
  refine T_cond rfl (fun e => by cases e) (fun _ => ?_)
  refine T_auto TT_ok rfl ?_
  refine RJ_Q TT_ok (eqInt64S_q _ hb.2.2.2.1.1) rfl rfl rfl rfl rfl ?_
  refine T_cond rfl (fun e => by cases e) (fun _ => ?_)
  refine T_auto TT_ok rfl ?_
  exact T_ansB TT_ok [(4, none)] rfl rfl (rfl)
theorem eqMachineS_q (xs : List GMachine) (hb : D.bd bigN (dL 4 cMachine GMachine.z xs)) : Ans Try.prog 51 [] [vL 4 cMachine GMachine.z xs, vL 4 cMachine GMachine.z xs] [] (vB true) := by
  have hl : xs.length ≤ 1048576 := hb.1
  refine con_enter Try.func51 rfl rfl rfl fun B0 r_ D_ w0 => ?_
  refine T_auto TT_ok rfl ?_
  refine T_condN rfl (fun e => absurd rfl e) (fun _ => ?_)
  refine T_auto TT_ok rfl ?_
  refine T_loopA (ι := Nat) (fun i => [(5, vI i)]) (fun _ => []) (fun i => i ≤ xs.length) (fun i => xs.length - i) 0 [] [] rfl rfl (Nat.zero_le _) (by repeat (first | exact trivial | refine And.intro ⟨_, rfl, SV.imp_refl _⟩ ?_)) (by repeat (first | exact trivial | refine And.intro ⟨_, rfl, Ch.imp_refl _⟩ ?_)) ?_
  intro i h1
  refine T_auto TT_ok rfl ?_
  refine T_condD rfl (fun e => ?_) (fun e => ?_)
  · have hi : i < xs.length := by omega
    refine T_auto TT_ok rfl ?_
    refine T_drawA TT_ok [] rfl rfl fun B0 H0 => ?_
    refine DJ_Q TT_ok (eqMachine_g _ (hb.2 i hi)) rfl rfl rfl rfl rfl rfl ?_
    refine DJ_endA TT_ok rfl ?_
    refine T_cond rfl (fun e => by cases e) (fun _ => ?_)
    refine T_auto TT_ok rfl ?_
    exact X_inv (i + 1) hi (by omega) (by repeat (first | exact trivial | refine And.intro ⟨_, rfl, SV.imp_refl _⟩ ?_)) (by repeat (first | exact trivial | refine And.intro ⟨_, rfl, Ch.imp_refl _⟩ ?_))
  · refine T_auto TT_ok rfl ?_
    exact T_ansB TT_ok [(4, none)] rfl rfl (rfl)
theorem mMachine_eq (x : GMachine) : mMachine x = 0+1+((sumW mCopy x.copies))+((sumW mRecord x.log))+(x.cleared.length) := by unfold mMachine; omega
theorem markMachineS_w (xs : List GMachine) (hb : D.bd bigN (dL 4 cMachine GMachine.z xs)) (k0 : Int) (h1 : 0 ≤ k0) (h2 : k0 + (sumW mMachine xs : Nat) ≤ 1000000000000) : Con Try.prog 54 [900] [.a (.g 900), vI k0] [(900, arrC 4 cMachine GMachine.z xs)] (fun _ : Unit => True) (fun _ => [vI (k0 + (sumW mMachine xs : Nat))]) fun _ => [(900, arrC 4 cMachine GMachine.z (mkL mkMachine mMachine GMachine.z xs k0))] := by
  have hl : xs.length ≤ 1048576 := hb.1
  refine con_enter Try.func54 rfl rfl rfl fun B0 r_ D_ w0 => ?_
  refine T_auto TT_ok rfl ?_
  refine T_loopA (ι := Nat) (fun i => [(5, vI i), (1, vI (k0 + (sumW mMachine (xs.take i) : Nat)))]) (fun i => [(900, .arr 4 xs.length fun j => cMachine (if j < i then mkMachine (xs.getD j GMachine.z) (k0 + (sumW mMachine (xs.take j) : Nat)) else xs.getD j GMachine.z))]) (fun i => i ≤ xs.length) (fun i => xs.length - i) 0 [900] [] rfl rfl (Nat.zero_le _) ⟨⟨_, rfl, SV.imp_refl _⟩, ⟨_, rfl, SV.imp_of (vI_eq (by simp [sumW]))⟩, trivial⟩ ⟨⟨_, rfl, Ch.imp_arr fun k hk => by rw [if_neg (Nat.not_lt_zero _)]⟩, trivial⟩ ?_
  intro i h3
  refine T_auto TT_ok rfl ?_
  refine T_condD rfl (fun e => ?_) (fun e => ?_)
  · have hi : i < xs.length := by omega
    have hs := sumW_take (w := mMachine) (z := GMachine.z) hi
    have hs2 := sumW_take_le (w := mMachine) xs (i + 1)
    have hm := mMachine_eq (xs.getD i GMachine.z)
    have ht : sumW mMachine (xs.take ((i : Int)).toNat) = sumW mMachine (xs.take i) := rfl
    refine T_view (V_carve 900 i 7000 (l := [.v (.bool (xs.getD i GMachine.z).alive), .s .o 2 (xs.getD i GMachine.z).copies.length fun j => cCopy ((xs.getD i GMachine.z).copies.getD j GCopy.z), .s .o 4 (xs.getD i GMachine.z).log.length fun j => cRecord ((xs.getD i GMachine.z).log.getD j GRecord.z), .s .o 1 (xs.getD i GMachine.z).cleared.length fun j => cInt ((xs.getD i GMachine.z).cleared.getD j 0)]) rfl (by rw [if_neg (by omega : ¬ ((i : Int)).toNat < i)]; rfl) rfl rfl rfl rfl ⟨by omega, by omega⟩) ?_
    refine T_view (V_open 7000 1 7001 rfl rfl rfl rfl rfl rfl) ?_
    refine T_view (V_open 7000 2 7002 rfl rfl rfl rfl rfl rfl) ?_
    refine T_view (V_open 7000 3 7003 rfl rfl rfl rfl rfl rfl) ?_
    refine T_auto TT_ok rfl ?_
    refine RJ_view (V_pe 18 rfl rfl rfl) ?_
    refine RJ_auto TT_ok rfl ?_
    refine RJ_view (V_pe 24 rfl rfl rfl) ?_
    refine RJ_auto TT_ok rfl ?_
    refine RJ_C TT_ok (Con.sw 900 7001 (markCopyS_w (xs.getD i GMachine.z).copies (hb.2 i hi).2.1 _ (by omega) (by omega))) rfl rfl (SVs.imp_refl _) (fun _ => rfl) rfl rfl rfl fun _ _ => ?_
    refine RJ_auto TT_ok rfl ?_
    refine RJ_view (V_pe 31 rfl rfl rfl) ?_
    refine RJ_auto TT_ok rfl ?_
    refine RJ_C TT_ok (Con.sw 900 7002 (markRecordS_w (xs.getD i GMachine.z).log (hb.2 i hi).2.2.1 _ (by omega) (by omega))) rfl rfl (SVs.imp_refl _) (fun _ => rfl) rfl rfl rfl fun _ _ => ?_
    refine RJ_auto TT_ok rfl ?_
    refine RJ_view (V_pe 38 rfl rfl rfl) ?_
    refine RJ_auto TT_ok rfl ?_
    refine RJ_C TT_ok (Con.sw 900 7003 (markInt64S_w (xs.getD i GMachine.z).cleared (hb.2 i hi).2.2.2.1.1 _ (by omega) (by omega))) rfl rfl (SVs.imp_refl _) (fun _ => rfl) rfl rfl rfl fun _ _ => ?_
    refine RJ_auto TT_ok rfl ?_
    refine X_view (V_fold 7000 1 7001 rfl rfl rfl rfl rfl rfl rfl) ?_
    refine X_view (V_fold 7000 2 7002 rfl rfl rfl rfl rfl rfl rfl) ?_
    refine X_view (V_fold 7000 3 7003 rfl rfl rfl rfl rfl rfl rfl) ?_
    refine X_view (V_uncarve 900 7000 rfl rfl rfl rfl rfl rfl rfl) ?_
    exact X_inv (i + 1) hi (by omega) ⟨⟨_, rfl, SV.imp_refl _⟩, ⟨_, rfl, SV.imp_of (vI_eq (by omega))⟩, (by repeat (first | exact trivial | refine And.intro ⟨_, rfl, SV.imp_refl _⟩ ?_))⟩ ⟨⟨_, rfl, Ch.imp_arr fun k hk => fill_step2 (i := i) (k := k) (fun x => cMachine x) (fun j => mkMachine (xs.getD j GMachine.z) (k0 + (sumW mMachine (xs.take j) : Nat))) (o := fun j => xs.getD j GMachine.z) (by rfl)⟩, (by repeat (first | exact trivial | refine And.intro ⟨_, rfl, Ch.imp_refl _⟩ ?_))⟩
  · have hi : i = xs.length := by omega
    subst hi
    rw [List.take_length]
    refine T_auto TT_ok rfl ?_
    refine T_ret TT_ok (()) [(4, none)] rfl rfl ?_ ?_ ?_
    · exact SVs.imp_refl _
    · exact ⟨⟨_, rfl, Ch.imp_len (tab_length _ _).symm fun k hk => by rw [if_pos hk, mkL, tab_getD hk]⟩, trivial⟩
    · trivial
theorem heldMachineS_w (xs : List GMachine) (hb : D.bd bigN (dL 4 cMachine GMachine.z xs)) (k0 : Int) (h1 : 0 ≤ k0) (h2 : k0 + (sumW mMachine xs : Nat) ≤ 1000000000000) : Ans Try.prog 57 [] [vL 4 cMachine GMachine.z (mkL mkMachine mMachine GMachine.z xs k0), vI k0] [] (vI (k0 + (sumW mMachine xs : Nat))) := by
  have hl : xs.length ≤ 1048576 := hb.1
  refine Con.wkA (args := [.a (.s .r 4 xs.length fun j => cMachine (mkMachine (xs.getD j GMachine.z) (k0 + (sumW mMachine (xs.take j) : Nat)))), vI k0]) ?_ ⟨_, _, rfl, imp_untabS, SVs.imp_refl _⟩
  refine con_enter Try.func57 rfl rfl rfl fun B0 r_ D_ w0 => ?_
  refine T_auto TT_ok rfl ?_
  refine T_loopA (ι := Nat) (fun i => [(5, vI i), (1, vI (k0 + (sumW mMachine (xs.take i) : Nat)))]) (fun _ => []) (fun i => i ≤ xs.length) (fun i => xs.length - i) 0 [] [] rfl rfl (Nat.zero_le _) ⟨⟨_, rfl, SV.imp_refl _⟩, ⟨_, rfl, SV.imp_of (vI_eq (by simp [sumW]))⟩, trivial⟩ (by repeat (first | exact trivial | refine And.intro ⟨_, rfl, Ch.imp_refl _⟩ ?_)) ?_
  intro i h3
  refine T_auto TT_ok rfl ?_
  refine T_condD rfl (fun e => ?_) (fun e => ?_)
  · have hi : i < xs.length := by omega
    have hs := sumW_take (w := mMachine) (z := GMachine.z) hi
    have hs2 := sumW_take_le (w := mMachine) xs (i + 1)
    have hm := mMachine_eq (xs.getD i GMachine.z)
    have ht : sumW mMachine (xs.take ((i : Int)).toNat) = sumW mMachine (xs.take i) := rfl
    refine T_auto TT_ok rfl ?_
    refine T_condX rfl (fun e => absurd ((beq_self_eq_true _).symm.trans e) (by decide)) (fun _ => ?_)
    refine T_auto TT_ok rfl ?_
    refine RJ_Q TT_ok (heldCopyS_w (xs.getD i GMachine.z).copies (hb.2 i hi).2.1 _ (by (try simp only [Int.toNat_natCast] at *); omega) (by (try simp only [Int.toNat_natCast] at *); omega)) rfl rfl rfl rfl rfl ?_
    refine T_condD rfl (fun e => by (try simp only [Int.toNat_natCast] at *); omega) (fun _ => ?_)
    refine T_auto TT_ok rfl ?_
    refine RJ_Q TT_ok (heldRecordS_w (xs.getD i GMachine.z).log (hb.2 i hi).2.2.1 _ (by (try simp only [Int.toNat_natCast] at *); omega) (by (try simp only [Int.toNat_natCast] at *); omega)) rfl rfl rfl rfl rfl ?_
    refine T_condD rfl (fun e => by (try simp only [Int.toNat_natCast] at *); omega) (fun _ => ?_)
    refine T_auto TT_ok rfl ?_
    refine RJ_Q TT_ok (heldInt64S_w (xs.getD i GMachine.z).cleared (hb.2 i hi).2.2.2.1.1 _ (by (try simp only [Int.toNat_natCast] at *); omega) (by (try simp only [Int.toNat_natCast] at *); omega)) rfl rfl rfl rfl rfl ?_
    refine T_condD rfl (fun e => by (try simp only [Int.toNat_natCast] at *); omega) (fun _ => ?_)
    refine T_auto TT_ok rfl ?_
    exact X_inv (i + 1) hi (by omega) ⟨⟨_, rfl, SV.imp_refl _⟩, ⟨_, rfl, SV.imp_of (vI_eq (by (try simp only [Int.toNat_natCast] at *); omega))⟩, (by repeat (first | exact trivial | refine And.intro ⟨_, rfl, SV.imp_refl _⟩ ?_))⟩ (by repeat (first | exact trivial | refine And.intro ⟨_, rfl, Ch.imp_refl _⟩ ?_))
  · have hi : i = xs.length := by omega
    subst hi
    rw [List.take_length]
    refine T_auto TT_ok rfl ?_
    exact T_ansI TT_ok [(4, none)] rfl rfl (rfl)
/-- its parts are own arrays -/
abbrev agTxG (x : GTx) (k1 k2 : Nat) : SV := .ag [.v (.int .i64 x.id), .v (.int .i64 x.home), .v (.int .i64 x.phase), .v (.int .i64 x.done), .g k1, .g k2, .v (.int .i64 x.stamp)]
theorem szTx_g (x : GTx) (hb : D.bds maxL (cTx x)) (l : Int) (h1 : 0 ≤ l) (h2 : l ≤ 1048576) : Ans Try.prog 6 [] [vR (cTx x), vI l] [] (vI (szI l (wTx x))) := by
  unfold wTx
  refine con_enter Try.func6 rfl rfl rfl fun B0 r_ D_ w0 => ?_
  refine T_auto TT_ok rfl ?_
  refine RJ_Q TT_ok (szNoteS_q _ hb.2.2.2.2.1.1 _ h1 h2) rfl rfl rfl rfl rfl ?_
  refine T_condD rfl (fun e1 => ?_) (fun e1 => ?_)
  · refine T_auto TT_ok rfl ?_
    exact T_ansI TT_ok [(4, none)] rfl rfl (by exact (szI_mono e1 (by omega)).symm)
  have e1r := e1
  refine T_auto TT_ok rfl ?_
  refine RJ_Q TT_ok (szSetS_q _ hb.2.2.2.2.2.1.1 _ (szI_in e1).1 (Int.le_trans (szI_in e1).2.1 h2)) rfl rfl rfl rfl rfl ?_
  refine T_condD rfl (fun e2 => ?_) (fun e2 => ?_)
  · refine T_auto TT_ok rfl ?_
    exact T_ansI TT_ok [(4, none)] rfl rfl (by rw [szI_ge e1r] at e2; exact (szI_mono e2 (by omega)).symm)
  have e2r := e2
  rw [szI_ge e1r] at e2r
  refine T_auto TT_ok rfl ?_
  exact T_ansI TT_ok [(4, none)] rfl rfl (by rw [szI_ge e1r])
theorem toTx_g (x : GTx) (hb : D.bds bigN (cTx x)) : Con Try.prog 8 [] [vR (cTx x)] [] (fun _ : Unit => True) (fun _ => [agTxG x 901 902]) fun _ => [(901, arrC 5 cNote GNote.z x.reads), (902, arrC 5 cSet GSet.z x.sets)] := by
  refine con_enter Try.func8 rfl rfl rfl fun B0 r_ D_ w0 => ?_
  refine T_auto TT_ok rfl ?_
  refine RJ_C TT_ok (Con.sw 900 901 (toNoteS_m x.reads hb.2.2.2.2.1.1)) rfl rfl (SVs.imp_refl _) (fun _ => rfl) rfl rfl rfl fun _ _ => ?_
  refine RJ_auto TT_ok rfl ?_
  refine RJ_C TT_ok (Con.sw 900 902 (toSetS_m x.sets hb.2.2.2.2.2.1.1)) rfl rfl (SVs.imp_refl _) (fun _ => rfl) rfl rfl rfl fun _ _ => ?_
  refine RJ_auto TT_ok rfl ?_
  refine T_ret TT_ok (()) [(2, some 32)] rfl rfl ?_ ?_ ?_
  · exact SVs.imp_refl _
  · exact ⟨⟨_, rfl, Ch.imp_refl _⟩, ⟨_, rfl, Ch.imp_refl _⟩, trivial⟩
  · trivial
theorem eqTx_g (x : GTx) (hb : D.bds bigN (cTx x)) : Ans Try.prog 11 [] [vR (cTx x), vR (cTx x)] [] (vB true) := by
  refine con_enter Try.func11 rfl rfl rfl fun B0 r_ D_ w0 => ?_
  refine T_auto TT_ok rfl ?_
  refine T_condN rfl (fun e => absurd rfl e) (fun _ => ?_)
  refine T_auto TT_ok rfl ?_
  refine T_condN rfl (fun e => absurd rfl e) (fun _ => ?_)
  refine T_auto TT_ok rfl ?_
  refine T_condN rfl (fun e => absurd rfl e) (fun _ => ?_)
  refine T_auto TT_ok rfl ?_
  refine T_condN rfl (fun e => absurd rfl e) (fun _ => ?_)
  refine T_auto TT_ok rfl ?_
  refine RJ_Q TT_ok (eqNoteS_q _ hb.2.2.2.2.1.1) rfl rfl rfl rfl rfl ?_
  refine T_cond rfl (fun e => by cases e) (fun _ => ?_)
  refine T_auto TT_ok rfl ?_
  refine RJ_Q TT_ok (eqSetS_q _ hb.2.2.2.2.2.1.1) rfl rfl rfl rfl rfl ?_
  refine T_cond rfl (fun e => by cases e) (fun _ => ?_)
  refine T_auto TT_ok rfl ?_
  refine T_condN rfl (fun e => absurd rfl e) (fun _ => ?_)
  refine T_auto TT_ok rfl ?_
  exact T_ansB TT_ok [(4, none)] rfl rfl (rfl)
theorem eqTxS_q (xs : List GTx) (hb : D.bd bigN (dL 7 cTx GTx.z xs)) : Ans Try.prog 52 [] [vL 7 cTx GTx.z xs, vL 7 cTx GTx.z xs] [] (vB true) := by
  have hl : xs.length ≤ 1048576 := hb.1
  refine con_enter Try.func52 rfl rfl rfl fun B0 r_ D_ w0 => ?_
  refine T_auto TT_ok rfl ?_
  refine T_condN rfl (fun e => absurd rfl e) (fun _ => ?_)
  refine T_auto TT_ok rfl ?_
  refine T_loopA (ι := Nat) (fun i => [(5, vI i)]) (fun _ => []) (fun i => i ≤ xs.length) (fun i => xs.length - i) 0 [] [] rfl rfl (Nat.zero_le _) (by repeat (first | exact trivial | refine And.intro ⟨_, rfl, SV.imp_refl _⟩ ?_)) (by repeat (first | exact trivial | refine And.intro ⟨_, rfl, Ch.imp_refl _⟩ ?_)) ?_
  intro i h1
  refine T_auto TT_ok rfl ?_
  refine T_condD rfl (fun e => ?_) (fun e => ?_)
  · have hi : i < xs.length := by omega
    refine T_auto TT_ok rfl ?_
    refine T_drawA TT_ok [] rfl rfl fun B0 H0 => ?_
    refine DJ_Q TT_ok (eqTx_g _ (hb.2 i hi)) rfl rfl rfl rfl rfl rfl ?_
    refine DJ_endA TT_ok rfl ?_
    refine T_cond rfl (fun e => by cases e) (fun _ => ?_)
    refine T_auto TT_ok rfl ?_
    exact X_inv (i + 1) hi (by omega) (by repeat (first | exact trivial | refine And.intro ⟨_, rfl, SV.imp_refl _⟩ ?_)) (by repeat (first | exact trivial | refine And.intro ⟨_, rfl, Ch.imp_refl _⟩ ?_))
  · refine T_auto TT_ok rfl ?_
    exact T_ansB TT_ok [(4, none)] rfl rfl (rfl)
theorem mTx_eq (x : GTx) : mTx x = 0+1+1+1+1+(5 * x.reads.length)+(5 * x.sets.length)+1 := by unfold mTx; omega
theorem markTxS_w (xs : List GTx) (hb : D.bd bigN (dL 7 cTx GTx.z xs)) (k0 : Int) (h1 : 0 ≤ k0) (h2 : k0 + (sumW mTx xs : Nat) ≤ 1000000000000) : Con Try.prog 55 [900] [.a (.g 900), vI k0] [(900, arrC 7 cTx GTx.z xs)] (fun _ : Unit => True) (fun _ => [vI (k0 + (sumW mTx xs : Nat))]) fun _ => [(900, arrC 7 cTx GTx.z (mkL mkTx mTx GTx.z xs k0))] := by
  have hl : xs.length ≤ 1048576 := hb.1
  refine con_enter Try.func55 rfl rfl rfl fun B0 r_ D_ w0 => ?_
  refine T_auto TT_ok rfl ?_
  refine T_loopA (ι := Nat) (fun i => [(5, vI i), (1, vI (k0 + (sumW mTx (xs.take i) : Nat)))]) (fun i => [(900, .arr 7 xs.length fun j => cTx (if j < i then mkTx (xs.getD j GTx.z) (k0 + (sumW mTx (xs.take j) : Nat)) else xs.getD j GTx.z))]) (fun i => i ≤ xs.length) (fun i => xs.length - i) 0 [900] [] rfl rfl (Nat.zero_le _) ⟨⟨_, rfl, SV.imp_refl _⟩, ⟨_, rfl, SV.imp_of (vI_eq (by simp [sumW]))⟩, trivial⟩ ⟨⟨_, rfl, Ch.imp_arr fun k hk => by rw [if_neg (Nat.not_lt_zero _)]⟩, trivial⟩ ?_
  intro i h3
  refine T_auto TT_ok rfl ?_
  refine T_condD rfl (fun e => ?_) (fun e => ?_)
  · have hi : i < xs.length := by omega
    have hs := sumW_take (w := mTx) (z := GTx.z) hi
    have hs2 := sumW_take_le (w := mTx) xs (i + 1)
    have hm := mTx_eq (xs.getD i GTx.z)
    have ht : sumW mTx (xs.take ((i : Int)).toNat) = sumW mTx (xs.take i) := rfl
    refine T_view (V_carve 900 i 7000 (l := [.v (.int .i64 (xs.getD i GTx.z).id), .v (.int .i64 (xs.getD i GTx.z).home), .v (.int .i64 (xs.getD i GTx.z).phase), .v (.int .i64 (xs.getD i GTx.z).done), .s .o 5 (xs.getD i GTx.z).reads.length fun j => cNote ((xs.getD i GTx.z).reads.getD j GNote.z), .s .o 5 (xs.getD i GTx.z).sets.length fun j => cSet ((xs.getD i GTx.z).sets.getD j GSet.z), .v (.int .i64 (xs.getD i GTx.z).stamp)]) rfl (by rw [if_neg (by omega : ¬ ((i : Int)).toNat < i)]; rfl) rfl rfl rfl rfl ⟨by omega, by omega⟩) ?_
    refine T_view (V_open 7000 4 7001 rfl rfl rfl rfl rfl rfl) ?_
    refine T_view (V_open 7000 5 7002 rfl rfl rfl rfl rfl rfl) ?_
    refine T_auto TT_ok rfl ?_
    refine RJ_view (V_pe 16 rfl rfl rfl) ?_
    refine RJ_auto TT_ok rfl ?_
    refine RJ_view (V_pe 23 rfl rfl rfl) ?_
    refine RJ_auto TT_ok rfl ?_
    refine RJ_view (V_pe 30 rfl rfl rfl) ?_
    refine RJ_auto TT_ok rfl ?_
    refine RJ_view (V_pe 37 rfl rfl rfl) ?_
    refine RJ_auto TT_ok rfl ?_
    refine RJ_view (V_pe 43 rfl rfl rfl) ?_
    refine RJ_auto TT_ok rfl ?_
    refine RJ_C TT_ok (Con.sw 900 7001 (markNoteS_w (xs.getD i GTx.z).reads (hb.2 i hi).2.2.2.2.1.1 _ (by omega) (by omega))) rfl rfl (SVs.imp_refl _) (fun _ => rfl) rfl rfl rfl fun _ _ => ?_
    refine RJ_auto TT_ok rfl ?_
    refine RJ_view (V_pe 50 rfl rfl rfl) ?_
    refine RJ_auto TT_ok rfl ?_
    refine RJ_C TT_ok (Con.sw 900 7002 (markSetS_w (xs.getD i GTx.z).sets (hb.2 i hi).2.2.2.2.2.1.1 _ (by omega) (by omega))) rfl rfl (SVs.imp_refl _) (fun _ => rfl) rfl rfl rfl fun _ _ => ?_
    refine RJ_auto TT_ok rfl ?_
    refine RJ_view (V_pe 58 rfl rfl rfl) ?_
    refine RJ_auto TT_ok rfl ?_
    refine X_view (V_fold 7000 4 7001 rfl rfl rfl rfl rfl rfl rfl) ?_
    refine X_view (V_fold 7000 5 7002 rfl rfl rfl rfl rfl rfl rfl) ?_
    refine X_view (V_uncarve 900 7000 rfl rfl rfl rfl rfl rfl rfl) ?_
    exact X_inv (i + 1) hi (by omega) ⟨⟨_, rfl, SV.imp_refl _⟩, ⟨_, rfl, SV.imp_of (vI_eq (by omega))⟩, (by repeat (first | exact trivial | refine And.intro ⟨_, rfl, SV.imp_refl _⟩ ?_))⟩ ⟨⟨_, rfl, Ch.imp_arr fun k hk => fill_step2 (i := i) (k := k) (fun x => cTx x) (fun j => mkTx (xs.getD j GTx.z) (k0 + (sumW mTx (xs.take j) : Nat))) (o := fun j => xs.getD j GTx.z) (by rfl)⟩, (by repeat (first | exact trivial | refine And.intro ⟨_, rfl, Ch.imp_refl _⟩ ?_))⟩
  · have hi : i = xs.length := by omega
    subst hi
    rw [List.take_length]
    refine T_auto TT_ok rfl ?_
    refine T_ret TT_ok (()) [(4, none)] rfl rfl ?_ ?_ ?_
    · exact SVs.imp_refl _
    · exact ⟨⟨_, rfl, Ch.imp_len (tab_length _ _).symm fun k hk => by rw [if_pos hk, mkL, tab_getD hk]⟩, trivial⟩
    · trivial
theorem heldTxS_w (xs : List GTx) (hb : D.bd bigN (dL 7 cTx GTx.z xs)) (k0 : Int) (h1 : 0 ≤ k0) (h2 : k0 + (sumW mTx xs : Nat) ≤ 1000000000000) : Ans Try.prog 58 [] [vL 7 cTx GTx.z (mkL mkTx mTx GTx.z xs k0), vI k0] [] (vI (k0 + (sumW mTx xs : Nat))) := by
  have hl : xs.length ≤ 1048576 := hb.1
  refine Con.wkA (args := [.a (.s .r 7 xs.length fun j => cTx (mkTx (xs.getD j GTx.z) (k0 + (sumW mTx (xs.take j) : Nat)))), vI k0]) ?_ ⟨_, _, rfl, imp_untabS, SVs.imp_refl _⟩
  refine con_enter Try.func58 rfl rfl rfl fun B0 r_ D_ w0 => ?_
  refine T_auto TT_ok rfl ?_
  refine T_loopA (ι := Nat) (fun i => [(5, vI i), (1, vI (k0 + (sumW mTx (xs.take i) : Nat)))]) (fun _ => []) (fun i => i ≤ xs.length) (fun i => xs.length - i) 0 [] [] rfl rfl (Nat.zero_le _) ⟨⟨_, rfl, SV.imp_refl _⟩, ⟨_, rfl, SV.imp_of (vI_eq (by simp [sumW]))⟩, trivial⟩ (by repeat (first | exact trivial | refine And.intro ⟨_, rfl, Ch.imp_refl _⟩ ?_)) ?_
  intro i h3
  refine T_auto TT_ok rfl ?_
  refine T_condD rfl (fun e => ?_) (fun e => ?_)
  · have hi : i < xs.length := by omega
    have hs := sumW_take (w := mTx) (z := GTx.z) hi
    have hs2 := sumW_take_le (w := mTx) xs (i + 1)
    have hm := mTx_eq (xs.getD i GTx.z)
    have ht : sumW mTx (xs.take ((i : Int)).toNat) = sumW mTx (xs.take i) := rfl
    refine T_auto TT_ok rfl ?_
    refine T_condN rfl (fun e => absurd rfl e) (fun _ => ?_)
    refine T_auto TT_ok rfl ?_
    refine T_condN rfl (fun e => absurd rfl e) (fun _ => ?_)
    refine T_auto TT_ok rfl ?_
    refine T_condN rfl (fun e => absurd rfl e) (fun _ => ?_)
    refine T_auto TT_ok rfl ?_
    refine T_condN rfl (fun e => absurd rfl e) (fun _ => ?_)
    refine T_auto TT_ok rfl ?_
    refine RJ_Q TT_ok (heldNoteS_w (xs.getD i GTx.z).reads (hb.2 i hi).2.2.2.2.1.1 _ (by (try simp only [Int.toNat_natCast] at *); omega) (by (try simp only [Int.toNat_natCast] at *); omega)) rfl rfl rfl rfl rfl ?_
    refine T_condD rfl (fun e => by (try simp only [Int.toNat_natCast] at *); omega) (fun _ => ?_)
    refine T_auto TT_ok rfl ?_
    refine RJ_Q TT_ok (heldSetS_w (xs.getD i GTx.z).sets (hb.2 i hi).2.2.2.2.2.1.1 _ (by (try simp only [Int.toNat_natCast] at *); omega) (by (try simp only [Int.toNat_natCast] at *); omega)) rfl rfl rfl rfl rfl ?_
    refine T_condD rfl (fun e => by (try simp only [Int.toNat_natCast] at *); omega) (fun _ => ?_)
    refine T_auto TT_ok rfl ?_
    refine T_condN rfl (fun e => absurd rfl e) (fun _ => ?_)
    refine T_auto TT_ok rfl ?_
    exact X_inv (i + 1) hi (by omega) ⟨⟨_, rfl, SV.imp_refl _⟩, ⟨_, rfl, SV.imp_of (vI_eq (by (try simp only [Int.toNat_natCast] at *); omega))⟩, (by repeat (first | exact trivial | refine And.intro ⟨_, rfl, SV.imp_refl _⟩ ?_))⟩ (by repeat (first | exact trivial | refine And.intro ⟨_, rfl, Ch.imp_refl _⟩ ?_))
  · have hi : i = xs.length := by omega
    subst hi
    rw [List.take_length]
    refine T_auto TT_ok rfl ?_
    exact T_ansI TT_ok [(4, none)] rfl rfl (rfl)
theorem markTx_g (x : GTx) (hb : D.bds bigN (cTx x)) (k0 : Int) (h1 : 0 ≤ k0) (h2 : k0 + 5 * x.reads.length + 5 * x.sets.length ≤ 1000000000000) : Con Try.prog 12 [901, 902] [agTxG x 901 902, vI k0] [(901, arrC 5 cNote GNote.z x.reads), (902, arrC 5 cSet GSet.z x.sets)] (fun _ : Unit => True) (fun _ => [vI (k0 + 5 * x.reads.length + 5 * x.sets.length)]) fun _ => [(901, arrC 5 cNote GNote.z (mkTx0 x k0).reads), (902, arrC 5 cSet GSet.z (mkTx0 x k0).sets)] := by
  refine con_enter Try.func12 rfl rfl rfl fun B0 r_ D_ w0 => ?_
  refine T_auto TT_ok rfl ?_
  refine RJ_C TT_ok (Con.sw 900 901 (markNoteS_w x.reads hb.2.2.2.2.1.1 _ (by omega) (by omega))) rfl rfl (SVs.imp_refl _) (fun _ => rfl) rfl rfl rfl fun _ _ => ?_
  refine RJ_auto TT_ok rfl ?_
  refine RJ_C TT_ok (Con.sw 900 902 (markSetS_w x.sets hb.2.2.2.2.2.1.1 _ (by omega) (by omega))) rfl rfl (SVs.imp_refl _) (fun _ => rfl) rfl rfl rfl fun _ _ => ?_
  refine RJ_auto TT_ok rfl ?_
  refine T_ret TT_ok (()) [(4, none)] rfl rfl ?_ ?_ ?_
  · exact SVs.imp_refl _
  · exact ⟨⟨_, rfl, Ch.imp_refl _⟩, ⟨_, rfl, Ch.imp_refl _⟩, trivial⟩
  · trivial
theorem heldTx_g (x : GTx) (hb : D.bds bigN (cTx x)) (k0 : Int) (h1 : 0 ≤ k0) (h2 : k0 + 5 * x.reads.length + 5 * x.sets.length ≤ 1000000000000) : Ans Try.prog 13 [] [vR (cTx (mkTx0 x k0)), vI k0] [] (vI (k0 + 5 * x.reads.length + 5 * x.sets.length)) := by
  refine con_enter Try.func13 rfl rfl rfl fun B0 r_ D_ w0 => ?_
  refine T_auto TT_ok rfl ?_
  refine RJ_Q TT_ok (heldNoteS_w x.reads hb.2.2.2.2.1.1 _ (by omega) (by omega)) rfl rfl rfl rfl rfl ?_
  refine T_condD rfl (fun e => by omega) (fun _ => ?_)
  refine T_auto TT_ok rfl ?_
  refine RJ_Q TT_ok (heldSetS_w x.sets hb.2.2.2.2.2.1.1 _ (by omega) (by omega)) rfl rfl rfl rfl rfl ?_
  refine T_condD rfl (fun e => by omega) (fun _ => ?_)
  refine T_auto TT_ok rfl ?_
  exact T_ansI TT_ok [(4, none)] rfl rfl (rfl)
/-- its parts are own arrays -/
abbrev agClusterG (x : GCluster) (k1 k2 k3 : Nat) : SV := .ag [.v (.int .i64 x.config), .v (.int .i64 x.clock), .g k1, .g k2, .g k3, .v (.bool x.lost)]
theorem eqCluster_g (x : GCluster) (hb : D.bds bigN (cCluster x)) : Ans Try.prog 19 [] [vR (cCluster x), vR (cCluster x)] [] (vB true) := by
  refine con_enter Try.func19 rfl rfl rfl fun B0 r_ D_ w0 => ?_
  refine T_auto TT_ok rfl ?_
  refine T_condN rfl (fun e => absurd rfl e) (fun _ => ?_)
  refine T_auto TT_ok rfl ?_
  refine T_condN rfl (fun e => absurd rfl e) (fun _ => ?_)
  refine T_auto TT_ok rfl ?_
  refine RJ_Q TT_ok (eqPlaceS_q _ hb.2.2.1) rfl rfl rfl rfl rfl ?_
  refine T_cond rfl (fun e => by cases e) (fun _ => ?_)
  refine T_auto TT_ok rfl ?_
  refine RJ_Q TT_ok (eqMachineS_q _ hb.2.2.2.1) rfl rfl rfl rfl rfl ?_
  refine T_cond rfl (fun e => by cases e) (fun _ => ?_)
  refine T_auto TT_ok rfl ?_
  refine RJ_Q TT_ok (eqTxS_q _ hb.2.2.2.2.1) rfl rfl rfl rfl rfl ?_
  refine T_cond rfl (fun e => by cases e) (fun _ => ?_)
  refine T_auto TT_ok rfl ?_
  refine T_condX rfl (fun e => by simp at e) (fun _ => ?_)
  refine T_auto TT_ok rfl ?_
  exact T_ansB TT_ok [(4, none)] rfl rfl (rfl)
theorem markCluster_g (x : GCluster) (hb : D.bds bigN (cCluster x)) (k0 : Int) (h1 : 0 ≤ k0) (h2 : k0 + (sumW mPlace x.places : Nat) + (sumW mMachine x.machines : Nat) + (sumW mTx x.txs : Nat) ≤ 1000000000000) : Con Try.prog 20 [901, 902, 903] [agClusterG x 901 902 903, vI k0] [(901, arrC 1 cPlace GPlace.z x.places), (902, arrC 4 cMachine GMachine.z x.machines), (903, arrC 7 cTx GTx.z x.txs)] (fun _ : Unit => True) (fun _ => [vI (k0 + (sumW mPlace x.places : Nat) + (sumW mMachine x.machines : Nat) + (sumW mTx x.txs : Nat))]) fun _ => [(901, arrC 1 cPlace GPlace.z (mkCluster x k0).places), (902, arrC 4 cMachine GMachine.z (mkCluster x k0).machines), (903, arrC 7 cTx GTx.z (mkCluster x k0).txs)] := by
  refine con_enter Try.func20 rfl rfl rfl fun B0 r_ D_ w0 => ?_
  refine T_auto TT_ok rfl ?_
  refine RJ_C TT_ok (Con.sw 900 901 (markPlaceS_w x.places hb.2.2.1 _ (by omega) (by omega))) rfl rfl (SVs.imp_refl _) (fun _ => rfl) rfl rfl rfl fun _ _ => ?_
  refine RJ_auto TT_ok rfl ?_
  refine RJ_C TT_ok (Con.sw 900 902 (markMachineS_w x.machines hb.2.2.2.1 _ (by omega) (by omega))) rfl rfl (SVs.imp_refl _) (fun _ => rfl) rfl rfl rfl fun _ _ => ?_
  refine RJ_auto TT_ok rfl ?_
  refine RJ_C TT_ok (Con.sw 900 903 (markTxS_w x.txs hb.2.2.2.2.1 _ (by omega) (by omega))) rfl rfl (SVs.imp_refl _) (fun _ => rfl) rfl rfl rfl fun _ _ => ?_
  refine RJ_auto TT_ok rfl ?_
  refine T_ret TT_ok (()) [(4, none)] rfl rfl ?_ ?_ ?_
  · exact SVs.imp_refl _
  · exact ⟨⟨_, rfl, Ch.imp_refl _⟩, ⟨_, rfl, Ch.imp_refl _⟩, ⟨_, rfl, Ch.imp_refl _⟩, trivial⟩
  · trivial
theorem heldCluster_g (x : GCluster) (hb : D.bds bigN (cCluster x)) (k0 : Int) (h1 : 0 ≤ k0) (h2 : k0 + (sumW mPlace x.places : Nat) + (sumW mMachine x.machines : Nat) + (sumW mTx x.txs : Nat) ≤ 1000000000000) : Ans Try.prog 21 [] [vR (cCluster (mkCluster x k0)), vI k0] [] (vI (k0 + (sumW mPlace x.places : Nat) + (sumW mMachine x.machines : Nat) + (sumW mTx x.txs : Nat))) := by
  refine con_enter Try.func21 rfl rfl rfl fun B0 r_ D_ w0 => ?_
  refine T_auto TT_ok rfl ?_
  refine RJ_Q TT_ok (heldPlaceS_w x.places hb.2.2.1 _ (by omega) (by omega)) rfl rfl rfl rfl rfl ?_
  refine T_condD rfl (fun e => by omega) (fun _ => ?_)
  refine T_auto TT_ok rfl ?_
  refine RJ_Q TT_ok (heldMachineS_w x.machines hb.2.2.2.1 _ (by omega) (by omega)) rfl rfl rfl rfl rfl ?_
  refine T_condD rfl (fun e => by omega) (fun _ => ?_)
  refine T_auto TT_ok rfl ?_
  refine RJ_Q TT_ok (heldTxS_w x.txs hb.2.2.2.2.1 _ (by omega) (by omega)) rfl rfl rfl rfl rfl ?_
  refine T_condD rfl (fun e => by omega) (fun _ => ?_)
  refine T_auto TT_ok rfl ?_
  exact T_ansI TT_ok [(4, none)] rfl rfl (rfl)
end Go.Proofs.Ytiegllklalplnaa
