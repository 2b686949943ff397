
/-
  Heads, cells, records, machines, places: are they right, on both sides.
-/
import Derived.Test.YtpfcfepbhdkpdaaGreatS2
namespace Go.Proofs.YtpfcfepbhdkpdaaGreat
open Go Go.RowKit
set_option linter.unusedVariables false
set_option linter.unusedSimpArgs false
set_option maxRecDepth 4000

/-- is there an index below n? -/
def anyN (n : Nat) (p : Nat → Bool) : Bool := (List.range n).any p
theorem anyN_at {n i : Nat} {p : Nat → Bool} (hi : i < n) (h : p i = true) : anyN n p = true := List.any_eq_true.2 ⟨i, List.mem_range.2 hi, h⟩
theorem anyN_no {n : Nat} {p : Nat → Bool} (h : ∀ j, j < n → p j = false) : anyN n p = false := by
  unfold anyN; rw [List.any_eq_false]; intro x hx; rw [h x (List.mem_range.1 hx)]; simp
theorem anyN_get {n : Nat} {p : Nat → Bool} (h : anyN n p = false) : ∀ j, j < n → p j = false := fun j hj => by
  unfold anyN at h; rw [List.any_eq_false] at h; have := h j (List.mem_range.2 hj); simpa using this
theorem anyN_congr {n : Nat} {p q : Nat → Bool} (h : ∀ j, j < n → p j = q j) : anyN n p = anyN n q := by
  cases c : anyN n q with
  | false => exact anyN_no fun j hj => by rw [h j hj]; exact anyN_get c j hj
  | true =>
    obtain ⟨x, hx, h1⟩ := List.any_eq_true.1 c
    exact anyN_at (List.mem_range.1 hx) (by rw [h x (List.mem_range.1 hx)]; exact h1)

/-! ### heads -/
def headB (h : Int) : Bool := inB h 0 4000003
def valB (v : Int) : Bool := inB v (-1000000000) 1000000000
def usedB (h : Int) : Bool := bif headB h then (h.tdiv 2).tmod 2 == 1 else false
def lockedB (h : Int) : Bool := bif headB h then h.tmod 2 == 1 else false
def verI (h : Int) : Int := if headB h = true then h.tdiv 4 else -1
theorem headB_iff {h : Int} : headB h = true ↔ 0 ≤ h ∧ h ≤ 4000003 := inB_iff
theorem tdiv_nn {a b : Int} (h : 0 ≤ a) : a.tdiv b = a / b := Int.tdiv_eq_ediv_of_nonneg h
theorem tmod_nn {a b : Int} (h : 0 ≤ a) : a.tmod b = a % b := Int.tmod_eq_emod_of_nonneg h
theorem andI_nat {a b : Nat} (h : a < 9223372036854775808) (h2 : b < 9223372036854775808) : andI a b = ((a &&& b : Nat) : Int) := by
  unfold andI
  have e1 : (BitVec.ofInt 64 (a : Int)) = BitVec.ofNat 64 a := by simp
  have e2 : (BitVec.ofInt 64 (b : Int)) = BitVec.ofNat 64 b := by simp
  have e3 : (BitVec.ofNat 64 a &&& BitVec.ofNat 64 b).toNat = a &&& b := by
    rw [BitVec.toNat_and, BitVec.toNat_ofNat, BitVec.toNat_ofNat, Nat.mod_eq_of_lt (by omega), Nat.mod_eq_of_lt (by omega)]
  have h3 : a &&& b ≤ a := Nat.and_le_left
  rw [e1, e2, e3]
  exact IntWalk.i64_in _ (by omega)
theorem land1 (a : Nat) : a &&& 1 = a % 2 := Nat.and_one_is_mod a
theorem land2 (a : Nat) : a &&& 2 = 2 * (a / 2 % 2) := by
  have h1 : (a &&& 2) / 2 = a / 2 % 2 := by rw [Nat.and_div_two]; exact Nat.and_one_is_mod _
  have h2 : ¬ (a &&& 2) % 2 = 1 := fun h => by have := (Nat.and_mod_two_eq_one.1 h).2; omega
  omega
theorem and1 {h : Int} (k : headB h = true) : andI h 1 = h % 2 := by
  obtain ⟨h1, h2⟩ := headB_iff.1 k
  obtain ⟨a, rfl⟩ := Int.eq_ofNat_of_zero_le h1
  rw [show (1 : Int) = ((1 : Nat) : Int) from rfl, andI_nat (by omega) (by decide), land1]; omega
theorem and2 {h : Int} (k : headB h = true) : andI h 2 = 2 * (h / 2 % 2) := by
  obtain ⟨h1, h2⟩ := headB_iff.1 k
  obtain ⟨a, rfl⟩ := Int.eq_ofNat_of_zero_le h1
  rw [show (2 : Int) = ((2 : Nat) : Int) from rfl, andI_nat (by omega) (by decide), land2]; omega
theorem used2 {h : Int} (k : headB h = true) : (andI h 2 == 0) = !usedB h := by
  obtain ⟨h1, h2⟩ := headB_iff.1 k
  unfold usedB
  rw [k, and2 k, tdiv_nn h1, tmod_nn (by omega), Bool.eq_iff_iff]
  simp; omega
theorem locked1 {h : Int} (k : headB h = true) : (andI h 1 != 0) = lockedB h := by
  obtain ⟨h1, h2⟩ := headB_iff.1 k
  unfold lockedB
  rw [k, and1 k, tmod_nn h1, Bool.eq_iff_iff]
  simp; omega
theorem ver4 {h : Int} (k : headB h = true) : verI h = h.tdiv 4 := by rw [verI, if_pos k]
theorem tdiv_in {h d : Int} (h1 : 0 ≤ h) (h2 : h ≤ 4000003) (hd : 0 < d) : InR (h.tdiv d) := by
  rw [tdiv_nn h1]
  have h3 : 0 ≤ h / d := Int.ediv_nonneg h1 (by omega)
  have h4 : h / d ≤ h := Int.ediv_le_self _ h1
  unfold InR; omega
theorem spec_Used_q (h : Int) : Ans Tryz.prog 103 [] [vI h] [] (vB (usedB h)) := by
  refine con_enter Tryz.func103 rfl rfl rfl fun B0 r_ D_ w0 => ?_
  refine T_auto TT_ok rfl ?_
  refine RJ_QO TT_ok (spec_HeadOk_q _) rfl rfl (SVs.imp_refl _) rfl rfl ?_ ?_
  · exact ⟨fun _ => (by decide : (2 : Int) ≠ 0), fun k => tdiv_in (inB_iff.1 k).1 (inB_iff.1 k).2 (by decide), fun _ => (by decide : (2 : Int) ≠ 0), trivial⟩
  · exact T_ansB TT_ok [(2, none)] rfl rfl (rfl)
theorem spec_Locked_q (h : Int) : Ans Tryz.prog 102 [] [vI h] [] (vB (lockedB h)) := by
  refine con_enter Tryz.func102 rfl rfl rfl fun B0 r_ D_ w0 => ?_
  refine T_auto TT_ok rfl ?_
  refine RJ_Q TT_ok (spec_HeadOk_q _) rfl rfl rfl rfl rfl ?_
  exact T_ansB TT_ok [(2, none)] rfl rfl (rfl)
/-- what is wrong with a cell -/
def badCell (x : GCell) : Bool := bif (bif !headB x.head then true else !valB x.value) then true else (bif !usedB x.head then x.value != 0 else false)
def cellsB (xs : List GCell) : Bool := bif ((xs.length : Int) == 6) then !xs.any badCell else false
theorem spec_CellsOk_q (xs : List GCell) : Ans Tryz.prog 111 [] [vL 2 cCell GCell.z xs] [] (vB (cellsB xs)) := by
  refine con_enter Tryz.func111 rfl rfl rfl fun B0 r_ D_ w0 => ?_
  refine T_auto TT_ok rfl ?_
  refine T_condN rfl (fun e => ?_) (fun e => ?_)
  · refine T_auto TT_ok rfl ?_
    exact T_ansB TT_ok [(2, none)] rfl rfl ((by rw [cellsB, beq_eq_false_iff_ne.2 e]; rfl))
  refine T_auto TT_ok rfl ?_
  refine T_loopA (ι := Nat) (fun i => [(3, vI i)]) (fun _ => []) (fun i => i ≤ xs.length ∧ ∀ j, j < i → badCell (xs.getD j GCell.z) = false) (fun i => xs.length - i) 0 [] [] rfl rfl ⟨Nat.zero_le _, fun j hj => absurd hj (Nat.not_lt_zero _)⟩ (by repeat (first | exact trivial | refine And.intro ⟨_, rfl, SV.imp_refl _⟩ ?_)) (by repeat (first | exact trivial | refine And.intro ⟨_, rfl, Ch.imp_refl _⟩ ?_)) ?_
  intro i ⟨h1, h2⟩
  refine T_auto TT_ok rfl ?_
  refine T_condD rfl (fun e2 => ?_) (fun e2 => ?_)
  · have hi : i < xs.length := by omega
    refine T_auto TT_ok rfl ?_
    refine RJ_Q TT_ok (spec_HeadOk_q _) rfl rfl rfl rfl rfl ?_
    refine RJ_Q TT_ok (spec_l1Value_q _) rfl rfl rfl rfl rfl ?_
    refine RJ_Q TT_ok (spec_Used_q _) rfl rfl rfl rfl rfl ?_
    refine T_cond rfl (fun e1 => ?_) (fun e1 => ?_)
    · refine T_auto TT_ok rfl ?_
      exact T_ansB TT_ok [(2, none)] rfl rfl ((by rw [cellsB, any_at hi (p := badCell) e1]; simp))
    · refine T_auto TT_ok rfl ?_
      exact X_inv (i + 1) ⟨hi, before_succ h2 e1⟩ (by omega) (by repeat (first | exact trivial | refine And.intro ⟨_, rfl, SV.imp_refl _⟩ ?_)) (by repeat (first | exact trivial | refine And.intro ⟨_, rfl, Ch.imp_refl _⟩ ?_))
  · refine T_auto TT_ok rfl ?_
    exact T_ansB TT_ok [(2, none)] rfl rfl ((by rw [cellsB, beq_iff_eq.2 e, any_no fun j hj => h2 j (by omega)]; rfl))
theorem badCell_impl (x : GCell) : (bif bif !inB x.head 0 4000003 then true else !inB x.value (-1000000000) 1000000000 then true else bif andI x.head 2 == 0 then x.value != 0 else false) = badCell x := by
  unfold badCell
  cases c : headB x.head with
  | false => rw [show inB x.head 0 4000003 = false from c]; rfl
  | true => rw [used2 c, show inB x.head 0 4000003 = true from c]; rfl
theorem areCells1_q (x : GCell) : Ans Tryz.prog 184 [] [vR (cCell x)] [] (vB (badCell x)) := by
  refine con_enter Tryz.func184 rfl rfl rfl fun B0 r_ D_ w0 => ?_
  refine T_auto TT_ok rfl ?_
  refine RJ_Q TT_ok (impl_isHead_q _) rfl rfl rfl rfl rfl ?_
  refine RJ_Q TT_ok (impl_isValue_q _) rfl rfl rfl rfl rfl ?_
  exact T_ansB TT_ok [(2, none)] rfl rfl (badCell_impl x)
theorem impl_areCells_q (xs : List GCell) (hl : xs.length ≤ 1048576) : Ans Tryz.prog 144 [] [vL 2 cCell GCell.z xs] [] (vB (cellsB xs)) := by
  refine con_enter Tryz.func144 rfl rfl rfl fun B0 r_ D_ w0 => ?_
  refine T_auto TT_ok rfl ?_
  refine RJ_QF TT_ok (containsFuncCell_q xs hl badCell) rfl rfl (SVs.cons (SV.imp_refl _) (SVs.cons (imp_fb (enters_B (by kernel_rfl)) rfl fun args x ⟨n, e1, e2⟩ => by subst e1; subst e2; exact areCells1_q n) rfl)) rfl rfl ?_
  exact T_ansB TT_ok [(2, none)] rfl rfl (rfl)

theorem cond_t {α : Type} {c : Bool} {a b : α} (h : c = true) : (bif c then a else b) = a := by rw [h]; rfl
theorem cond_f {α : Type} {c : Bool} {a b : α} (h : c = false) : (bif c then a else b) = b := by rw [h]; rfl

/-! ### Sets of a record -/
def badSets (xs : List GSet) (i : Nat) : Bool := bif !setB (xs.getD i GSet.z) then true else bif decide ((i : Int) > 0) then (bif decide ((xs.getD i GSet.z).slot ≤ (xs.getD ((i : Int) - 1).toNat GSet.z).slot) then true else (xs.getD i GSet.z).region != (xs.getD 0 GSet.z).region) else false
def setsB (xs : List GSet) : Bool := !anyN xs.length (badSets xs)
theorem spec_l2Sets_q (xs : List GSet) (hl : xs.length ≤ 1048576) : Ans Tryz.prog 199 [] [vL 5 cSet GSet.z xs] [] (vB (setsB xs)) := by
  refine con_enter Tryz.func199 rfl rfl rfl fun B0 r_ D_ w0 => ?_
  refine T_auto TT_ok rfl ?_
  refine T_loopA (ι := Nat) (fun i => [(3, vI i)]) (fun _ => []) (fun i => i ≤ xs.length ∧ ∀ j, j < i → badSets xs j = false) (fun i => xs.length - i) 0 [] [] rfl rfl ⟨Nat.zero_le _, fun j hj => absurd hj (Nat.not_lt_zero _)⟩ (by repeat (first | exact trivial | refine And.intro ⟨_, rfl, SV.imp_refl _⟩ ?_)) (by repeat (first | exact trivial | refine And.intro ⟨_, rfl, Ch.imp_refl _⟩ ?_)) ?_
  intro i ⟨h1, h2⟩
  refine T_auto TT_ok rfl ?_
  refine T_condD rfl (fun e2 => ?_) (fun e2 => ?_)
  · have hi : i < xs.length := by omega
    refine T_auto TT_ok rfl ?_
    refine T_drawA TT_ok [] rfl rfl fun B0 H0 => ?_
    refine DJ_Q TT_ok (spec_SetOk_q _) rfl rfl rfl rfl rfl rfl ?_
    refine DJ_endA TT_ok rfl ?_
    refine T_cond rfl (fun e1 => ?_) (fun e1 => ?_)
    · refine T_auto TT_ok rfl ?_
      exact T_ansB TT_ok [(2, none)] rfl rfl ((by rw [setsB, anyN_at hi e1]; rfl))
    · refine T_auto TT_ok rfl ?_
      exact X_inv (i + 1) ⟨hi, before_succ h2 e1⟩ (by omega) (by repeat (first | exact trivial | refine And.intro ⟨_, rfl, SV.imp_refl _⟩ ?_)) (by repeat (first | exact trivial | refine And.intro ⟨_, rfl, Ch.imp_refl _⟩ ?_))
  · refine T_auto TT_ok rfl ?_
    exact T_ansB TT_ok [(2, none)] rfl rfl ((by rw [setsB, anyN_no fun j hj => h2 j (by omega)]; rfl))
theorem badSets_impl (xs : List GSet) (i : Nat) : (bif (bif !setB (xs.getD i GSet.z) then true else (xs.getD i GSet.z).region != (xs.getD 0 GSet.z).region) then true else bif decide ((i : Int) > 0) then decide ((xs.getD ((i : Int) - 1).toNat GSet.z).slot ≥ (xs.getD i GSet.z).slot) else false) = badSets xs i := by
  unfold badSets
  cases setB (xs.getD i GSet.z) with
  | false => rfl
  | true =>
    rcases Nat.eq_zero_or_pos i with h | h
    · subst h; simp
    · rw [decide_eq_true (by omega : (i : Int) > 0)]
      simp only [Bool.not_true, Bool.cond_false, Bool.cond_true]
      cases (xs.getD i GSet.z).region != (xs.getD 0 GSet.z).region <;> cases c : decide ((xs.getD i GSet.z).slot ≤ (xs.getD ((i : Int) - 1).toNat GSet.z).slot) <;> simp at c ⊢ <;> omega
theorem impl_areSets_q (xs : List GSet) (hl : xs.length ≤ 1048576) : Ans Tryz.prog 181 [] [vL 5 cSet GSet.z xs] [] (vB (setsB xs)) := by
  refine con_enter Tryz.func181 rfl rfl rfl fun B0 r_ D_ w0 => ?_
  refine T_auto TT_ok rfl ?_
  refine T_loopA (ι := Nat) (fun i => [(7, vI i)]) (fun _ => []) (fun i => i ≤ xs.length ∧ ∀ j, j < i → badSets xs j = false) (fun i => xs.length - i) 0 [] [] rfl rfl ⟨Nat.zero_le _, fun j hj => absurd hj (Nat.not_lt_zero _)⟩ (by repeat (first | exact trivial | refine And.intro ⟨_, rfl, SV.imp_refl _⟩ ?_)) (by repeat (first | exact trivial | refine And.intro ⟨_, rfl, Ch.imp_refl _⟩ ?_)) ?_
  intro i ⟨h1, h2⟩
  refine T_auto TT_ok rfl ?_
  refine T_condD rfl (fun e2 => ?_) (fun e2 => ?_)
  · have hi : i < xs.length := by omega
    refine T_auto TT_ok rfl ?_
    refine T_drawA TT_ok [] rfl rfl fun B0 H0 => ?_
    refine DJ_Q TT_ok (impl_isSet_q _) rfl rfl rfl rfl rfl rfl ?_
    refine DJ_endA TT_ok rfl ?_
    refine T_cond rfl (fun e1 => ?_) (fun e1 => ?_)
    · refine T_auto TT_ok rfl ?_
      exact T_ansB TT_ok [(2, none)] rfl rfl ((by rw [setsB, anyN_at hi ((badSets_impl xs i).symm.trans e1)]; rfl))
    · refine T_auto TT_ok rfl ?_
      exact X_inv (i + 1) ⟨hi, before_succ h2 ((badSets_impl xs i).symm.trans e1)⟩ (by omega) (by repeat (first | exact trivial | refine And.intro ⟨_, rfl, SV.imp_refl _⟩ ?_)) (by repeat (first | exact trivial | refine And.intro ⟨_, rfl, Ch.imp_refl _⟩ ?_))
  · refine T_auto TT_ok rfl ?_
    exact T_ansB TT_ok [(2, none)] rfl rfl ((by rw [setsB, anyN_no fun j hj => h2 j (by omega)]; rfl))
theorem setsB_get {xs : List GSet} (h : setsB xs = true) {i : Nat} (hi : i < xs.length) : setB (xs.getD i GSet.z) = true ∧ (xs.getD i GSet.z).region = (xs.getD 0 GSet.z).region := by
  have h1 := anyN_get (n := xs.length) (p := badSets xs) (by simpa [setsB] using h) i hi
  rw [← badSets_impl] at h1
  cases c : setB (xs.getD i GSet.z) with
  | false => rw [c] at h1; cases h1
  | true =>
    rw [c] at h1
    refine ⟨rfl, ?_⟩
    cases c2 : (xs.getD i GSet.z).region != (xs.getD 0 GSet.z).region with
    | false => simpa using c2
    | true => rw [c2] at h1; cases h1

/-! ### records -/
def recB (r : GRecord) : Bool := bif (bif (bif (bif (bif (bif inB r.kind 1 3 then inB r.tx 1 1000000 else false) then inB r.region 0 5 else false) then decide ((r.sets.length : Int) ≥ 1) else false) then decide ((r.sets.length : Int) ≤ 12) else false) then setsB r.sets else false) then (r.sets.getD 0 GSet.z).region == r.region else false
theorem spec_RecordOk_q (r : GRecord) (hl : r.sets.length ≤ 1048576) : Ans Tryz.prog 173 [] [vR (cRecord r)] [] (vB (recB r)) := by
  refine con_enter Tryz.func173 rfl rfl rfl fun B0 r_ D_ w0 => ?_
  refine T_auto TT_ok rfl ?_
  refine T_drawA TT_ok [] rfl rfl fun B0 H0 => ?_
  refine DJ_Q TT_ok (spec_l1In_q _ _ _) rfl rfl rfl rfl rfl rfl ?_
  refine DJ_Q TT_ok (spec_l1Id_q _) rfl rfl rfl rfl rfl rfl ?_
  refine DJ_Q TT_ok (spec_l1Region_q _) rfl rfl rfl rfl rfl rfl ?_
  refine DJ_Q TT_ok (spec_l2Sets_q _ hl) rfl rfl rfl rfl rfl rfl ?_
  refine DJ_endA TT_ok rfl ?_
  exact T_ansB TT_ok [(2, none)] rfl rfl (rfl)
theorem rec_impl (r : GRecord) : (bif (bif (bif (bif (bif inB r.kind 1 3 then inB r.tx 1 1000000 else false) then inB r.region 0 5 else false) then inB r.sets.length 1 12 else false) then setsB r.sets else false) then !(r.sets.any fun s => s.region != r.region) else false) = recB r := by
  unfold recB
  cases (bif (bif inB r.kind 1 3 then inB r.tx 1 1000000 else false) then inB r.region 0 5 else false) with
  | false => rfl
  | true =>
    simp only [Bool.cond_true]
    unfold inB
    cases c1 : decide ((r.sets.length : Int) ≥ 1) with
    | false => rfl
    | true =>
      simp only [Bool.cond_true]
      cases c2 : decide ((r.sets.length : Int) ≤ 12) with
      | false => rfl
      | true =>
        simp only [Bool.cond_true]
        cases c3 : setsB r.sets with
        | false => rfl
        | true =>
          simp only [Bool.cond_true]
          have hp : 0 < r.sets.length := by simp at c1; omega
          cases c4 : (r.sets.getD 0 GSet.z).region == r.region with
          | true =>
            have e := beq_iff_eq.1 c4
            rw [any_no (z := GSet.z) fun j hj => ?_]; · rfl
            have := (setsB_get c3 hj).2
            simp only [bne_eq_false_iff_eq]; rw [this, e]
          | false =>
            have e := beq_eq_false_iff_ne.1 c4
            rw [any_at (z := GSet.z) hp (by simpa using e)]; rfl
theorem isRecord1_q (s : GSet) (rc : GRecord) : Ans Tryz.prog 182 [] [vR (cSet s), vP (cRecord rc)] [] (vB (s.region != rc.region)) := by
  refine con_enter Tryz.func182 rfl rfl rfl fun B0 r_ D_ w0 => ?_
  refine T_auto TT_ok rfl ?_
  exact T_ansB TT_ok [(3, none)] rfl rfl (rfl)
theorem impl_isRecord_q (rc : GRecord) (hl : rc.sets.length ≤ 1048576) : Ans Tryz.prog 142 [] [vR (cRecord rc)] [] (vB (recB rc)) := by
  refine con_enter Tryz.func142 rfl rfl rfl fun B0 r_ D_ w0 => ?_
  refine T_auto TT_ok rfl ?_
  refine RJ_Q TT_ok (impl_within_q _ _ _) rfl rfl rfl rfl rfl ?_
  refine RJ_Q TT_ok (impl_isId_q _) rfl rfl rfl rfl rfl ?_
  refine RJ_Q TT_ok (impl_isRegion_q _) rfl rfl rfl rfl rfl ?_
  refine RJ_Q TT_ok (sizeSet_q _) rfl rfl rfl rfl rfl ?_
  refine RJ_Q TT_ok (impl_within_q _ _ _) rfl rfl rfl rfl rfl ?_
  refine RJ_Q TT_ok (impl_areSets_q _ hl) rfl rfl rfl rfl rfl ?_
  refine RJ_QF TT_ok (containsFuncSet_q rc.sets hl fun s => s.region != rc.region) rfl rfl (SVs.cons (SV.imp_refl _) (SVs.cons (imp_fb (enters_B (by kernel_rfl)) rfl fun args x ⟨n, e1, e2⟩ => by subst e1; subst e2; exact isRecord1_q n rc) rfl)) rfl rfl ?_
  exact T_ansB TT_ok [(2, none)] rfl rfl (rec_impl rc)

/-! ### machines -/
def badCl (xs : List Int) (i : Nat) : Bool := bif !inB (xs.getD i 0) 1 1000000 then true else bif decide ((i : Int) > 0) then decide (xs.getD i 0 ≤ xs.getD ((i : Int) - 1).toNat 0) else false
def risesB (xs : List Int) : Bool := !anyN xs.length (badCl xs)
theorem spec_l6Rises_q (xs : List Int) (hl : xs.length ≤ 1048576) : Ans Tryz.prog 172 [] [vL 1 cInt 0 xs] [] (vB (risesB xs)) := by
  refine con_enter Tryz.func172 rfl rfl rfl fun B0 r_ D_ w0 => ?_
  refine T_auto TT_ok rfl ?_
  refine T_loopA (ι := Nat) (fun i => [(3, vI i)]) (fun _ => []) (fun i => i ≤ xs.length ∧ ∀ j, j < i → badCl xs j = false) (fun i => xs.length - i) 0 [] [] rfl rfl ⟨Nat.zero_le _, fun j hj => absurd hj (Nat.not_lt_zero _)⟩ (by repeat (first | exact trivial | refine And.intro ⟨_, rfl, SV.imp_refl _⟩ ?_)) (by repeat (first | exact trivial | refine And.intro ⟨_, rfl, Ch.imp_refl _⟩ ?_)) ?_
  intro i ⟨h1, h2⟩
  refine T_auto TT_ok rfl ?_
  refine T_condD rfl (fun e2 => ?_) (fun e2 => ?_)
  · have hi : i < xs.length := by omega
    refine T_auto TT_ok rfl ?_
    refine T_drawA TT_ok [] rfl rfl fun B0 H0 => ?_
    refine DJ_Q TT_ok (spec_l1Id_q _) rfl rfl rfl rfl rfl rfl ?_
    refine DJ_endA TT_ok rfl ?_
    refine T_cond rfl (fun e1 => ?_) (fun e1 => ?_)
    · refine T_auto TT_ok rfl ?_
      exact T_ansB TT_ok [(2, none)] rfl rfl ((by rw [risesB, anyN_at (p := badCl xs) hi e1]; rfl))
    · refine T_auto TT_ok rfl ?_
      exact X_inv (i + 1) ⟨hi, before_succ h2 e1⟩ (by omega) (by repeat (first | exact trivial | refine And.intro ⟨_, rfl, SV.imp_refl _⟩ ?_)) (by repeat (first | exact trivial | refine And.intro ⟨_, rfl, Ch.imp_refl _⟩ ?_))
  · refine T_auto TT_ok rfl ?_
    exact T_ansB TT_ok [(2, none)] rfl rfl ((by rw [risesB, anyN_no fun j hj => h2 j (by omega)]; rfl))
def badCopy (xs : List GCopy) (i : Nat) : Bool := bif (bif !inB (xs.getD i GCopy.z).region 0 5 then true else !cellsB (xs.getD i GCopy.z).cells) then true else bif decide ((i : Int) > 0) then decide ((xs.getD i GCopy.z).region ≤ (xs.getD ((i : Int) - 1).toNat GCopy.z).region) else false
def MachOk (m : GMachine) : Prop := (m.copies.length ≤ 6 ∧ m.log.length ≤ 200 ∧ m.cleared.length ≤ 60) ∧ risesB m.cleared = true ∧ (∀ j, j < m.copies.length → badCopy m.copies j = false) ∧ ∀ j, j < m.log.length → recB (m.log.getD j GRecord.z) = true
theorem spec_MachineOk_q (m : GMachine) (hb : D.bds bigN (cMachine m)) : Ans Tryz.prog 128 [] [vR (cMachine m)] [] (vB (dec (MachOk m))) := by
  have b1 : m.copies.length ≤ 1048576 := hb.2.1.1
  have b2 : m.log.length ≤ 1048576 := hb.2.2.1.1
  have b3 : m.cleared.length ≤ 1048576 := hb.2.2.2.1.1
  refine con_enter Tryz.func128 rfl rfl rfl fun B0 r_ D_ w0 => ?_
  refine T_auto TT_ok rfl ?_
  refine RJ_Q TT_ok (spec_l6Rises_q _ b3) rfl rfl rfl rfl rfl ?_
  refine T_cond rfl (fun e => ?_) (fun e => ?_)
  · refine T_auto TT_ok rfl ?_
    exact T_ansB TT_ok [(2, none)] rfl rfl ((dec_false fun h => by have h1 := h.1; simp [h.2.1] at e; omega).symm)
  have hH : (m.copies.length ≤ 6 ∧ m.log.length ≤ 200 ∧ m.cleared.length ≤ 60) ∧ risesB m.cleared = true := by
    simp at e; exact ⟨by omega, e.2⟩
  clear e
  refine T_auto TT_ok rfl ?_
  refine T_loopA (ι := Nat) (fun i => [(3, vI i)]) (fun _ => []) (fun i => i ≤ m.copies.length ∧ ∀ j, j < i → badCopy m.copies j = false) (fun i => m.copies.length - i) 0 [] [] rfl rfl ⟨Nat.zero_le _, fun j hj => absurd hj (Nat.not_lt_zero _)⟩ (by repeat (first | exact trivial | refine And.intro ⟨_, rfl, SV.imp_refl _⟩ ?_)) (by repeat (first | exact trivial | refine And.intro ⟨_, rfl, Ch.imp_refl _⟩ ?_)) ?_
  intro i ⟨h1, h2⟩
  refine T_auto TT_ok rfl ?_
  refine T_condD rfl (fun e2 => ?_) (fun e2 => ?_)
  · have hi : i < m.copies.length := by omega
    refine T_auto TT_ok rfl ?_
    refine T_drawA TT_ok [] rfl rfl fun B0 H0 => ?_
    refine DJ_Q TT_ok (spec_l1Region_q _) rfl rfl rfl rfl rfl rfl ?_
    refine DJ_Q TT_ok (spec_CellsOk_q _) rfl rfl rfl rfl rfl rfl ?_
    refine DJ_endA TT_ok rfl ?_
    refine T_cond rfl (fun e1 => ?_) (fun e1 => ?_)
    · refine T_auto TT_ok rfl ?_
      exact T_ansB TT_ok [(2, none)] rfl rfl ((dec_false fun h => by have := (h.2.2.1 i hi).symm.trans e1; cases this).symm)
    · refine T_auto TT_ok rfl ?_
      exact X_inv (i + 1) ⟨hi, before_succ h2 e1⟩ (by omega) (by repeat (first | exact trivial | refine And.intro ⟨_, rfl, SV.imp_refl _⟩ ?_)) (by repeat (first | exact trivial | refine And.intro ⟨_, rfl, Ch.imp_refl _⟩ ?_))
  have hi : i = m.copies.length := by omega
  subst hi
  refine T_auto TT_ok rfl ?_
  refine T_loopA (ι := Nat) (fun i => [(4, vI i)]) (fun _ => []) (fun i => i ≤ m.log.length ∧ ∀ j, j < i → recB (m.log.getD j GRecord.z) = true) (fun i => m.log.length - i) 0 [] [] rfl rfl ⟨Nat.zero_le _, fun j hj => absurd hj (Nat.not_lt_zero _)⟩ (by repeat (first | exact trivial | refine And.intro ⟨_, rfl, SV.imp_refl _⟩ ?_)) (by repeat (first | exact trivial | refine And.intro ⟨_, rfl, Ch.imp_refl _⟩ ?_)) ?_
  intro i ⟨h3, h4⟩
  refine T_auto TT_ok rfl ?_
  refine T_condD rfl (fun e3 => ?_) (fun e3 => ?_)
  · have hi : i < m.log.length := by omega
    refine T_auto TT_ok rfl ?_
    refine RJ_Q TT_ok (spec_RecordOk_q _ (hb.2.2.1.2 i hi).2.2.2.1.1) rfl rfl rfl rfl rfl ?_
    refine T_condX rfl (fun e1 => ?_) (fun e1 => ?_)
    · refine T_auto TT_ok rfl ?_
      exact T_ansB TT_ok [(2, none)] rfl rfl ((dec_false fun h => by have := (h.2.2.2 i hi).symm.trans e1; cases this).symm)
    · refine T_auto TT_ok rfl ?_
      exact X_inv (i + 1) ⟨hi, before_succ h4 e1⟩ (by omega) (by repeat (first | exact trivial | refine And.intro ⟨_, rfl, SV.imp_refl _⟩ ?_)) (by repeat (first | exact trivial | refine And.intro ⟨_, rfl, Ch.imp_refl _⟩ ?_))
  · refine T_auto TT_ok rfl ?_
    exact T_ansB TT_ok [(2, none)] rfl rfl ((dec_true ⟨hH.1, hH.2, h2, fun j hj => h4 j (by omega)⟩).symm)
theorem isMachineOk1_q (r : GRecord) (hl : r.sets.length ≤ 1048576) : Ans Tryz.prog 141 [] [vR (cRecord r)] [] (vB (!recB r)) := by
  refine con_enter Tryz.func141 rfl rfl rfl fun B0 r_ D_ w0 => ?_
  refine T_auto TT_ok rfl ?_
  refine RJ_Q TT_ok (impl_isRecord_q _ hl) rfl rfl rfl rfl rfl ?_
  exact T_ansB TT_ok [(2, none)] rfl rfl (rfl)
theorem impl_isMachineOk_q (m : GMachine) (hb : D.bds bigN (cMachine m)) : Ans Tryz.prog 76 [] [vR (cMachine m)] [] (vB (dec (MachOk m))) := by
  have b1 : m.copies.length ≤ 1048576 := hb.2.1.1
  have b2 : m.log.length ≤ 1048576 := hb.2.2.1.1
  have b3 : m.cleared.length ≤ 1048576 := hb.2.2.2.1.1
  refine con_enter Tryz.func76 rfl rfl rfl fun B0 r_ D_ w0 => ?_
  refine T_auto TT_ok rfl ?_
  refine RJ_QF TT_ok (containsFuncRecord_p m.log b2 (fun r => r.sets.length ≤ 1048576) (fun i hi => (hb.2.2.1.2 i hi).2.2.2.1.1) fun r => !recB r) rfl rfl (SVs.cons (SV.imp_refl _) (SVs.cons (imp_fb (enters_B (by kernel_rfl)) rfl fun args x ⟨n, hn, e1, e2⟩ => by subst e1; subst e2; exact isMachineOk1_q n hn) rfl)) rfl rfl ?_
  refine T_cond rfl (fun e => ?_) (fun e => ?_)
  · refine T_auto TT_ok rfl ?_
    exact T_ansB TT_ok [(2, none)] rfl rfl ((dec_false fun h => by have h1 := h.1; rw [any_no (z := GRecord.z) fun j hj => by rw [h.2.2.2 j hj]; rfl] at e; simp at e; omega).symm)
  have hH : (m.copies.length ≤ 6 ∧ m.log.length ≤ 200 ∧ m.cleared.length ≤ 60) ∧ (m.log.any fun r => !recB r) = false := by
    cases c : m.log.any fun r => !recB r with
    | true => rw [c] at e; simp at e
    | false => rw [c] at e; simp at e; exact ⟨by omega, rfl⟩
  have hR : ∀ j, j < m.log.length → recB (m.log.getD j GRecord.z) = true := fun j hj => by simpa using any_get (z := GRecord.z) hH.2 j hj
  clear e
  refine T_auto TT_ok rfl ?_
  refine T_loopA (ι := Nat) (fun i => [(31, vI i)]) (fun _ => []) (fun i => i ≤ m.copies.length ∧ ∀ j, j < i → badCopy m.copies j = false) (fun i => m.copies.length - i) 0 [] [] rfl rfl ⟨Nat.zero_le _, fun j hj => absurd hj (Nat.not_lt_zero _)⟩ (by repeat (first | exact trivial | refine And.intro ⟨_, rfl, SV.imp_refl _⟩ ?_)) (by repeat (first | exact trivial | refine And.intro ⟨_, rfl, Ch.imp_refl _⟩ ?_)) ?_
  intro i ⟨h1, h2⟩
  refine T_auto TT_ok rfl ?_
  refine T_condD rfl (fun e2 => ?_) (fun e2 => ?_)
  · have hi : i < m.copies.length := by omega
    refine T_auto TT_ok rfl ?_
    refine T_drawA TT_ok [] rfl rfl fun B0 H0 => ?_
    refine DJ_Q TT_ok (impl_isRegion_q _) rfl rfl rfl rfl rfl rfl ?_
    refine DJ_Q TT_ok (impl_areCells_q _ (hb.2.1.2 i hi).2.1.1) rfl rfl rfl rfl rfl rfl ?_
    refine DJ_endA TT_ok rfl ?_
    refine T_cond rfl (fun e1 => ?_) (fun e1 => ?_)
    · refine T_auto TT_ok rfl ?_
      exact T_ansB TT_ok [(2, none)] rfl rfl ((dec_false fun h => by have := (h.2.2.1 i hi).symm.trans e1; cases this).symm)
    · refine T_auto TT_ok rfl ?_
      exact X_inv (i + 1) ⟨hi, before_succ h2 e1⟩ (by omega) (by repeat (first | exact trivial | refine And.intro ⟨_, rfl, SV.imp_refl _⟩ ?_)) (by repeat (first | exact trivial | refine And.intro ⟨_, rfl, Ch.imp_refl _⟩ ?_))
  have hi : i = m.copies.length := by omega
  subst hi
  refine T_auto TT_ok rfl ?_
  refine T_loopA (ι := Nat) (fun i => [(66, vI i)]) (fun _ => []) (fun i => i ≤ m.cleared.length ∧ ∀ j, j < i → badCl m.cleared j = false) (fun i => m.cleared.length - i) 0 [] [] rfl rfl ⟨Nat.zero_le _, fun j hj => absurd hj (Nat.not_lt_zero _)⟩ (by repeat (first | exact trivial | refine And.intro ⟨_, rfl, SV.imp_refl _⟩ ?_)) (by repeat (first | exact trivial | refine And.intro ⟨_, rfl, Ch.imp_refl _⟩ ?_)) ?_
  intro i ⟨h3, h4⟩
  refine T_auto TT_ok rfl ?_
  refine T_condD rfl (fun e3 => ?_) (fun e3 => ?_)
  · have hi : i < m.cleared.length := by omega
    refine T_auto TT_ok rfl ?_
    refine RJ_Q TT_ok (impl_isId_q _) rfl rfl rfl rfl rfl ?_
    refine T_cond rfl (fun e1 => ?_) (fun e1 => ?_)
    · refine T_auto TT_ok rfl ?_
      exact T_ansB TT_ok [(2, none)] rfl rfl ((dec_false fun h => by have h1 := h.2.1; rw [risesB, anyN_at (p := badCl m.cleared) hi e1] at h1; cases h1).symm)
    · refine T_auto TT_ok rfl ?_
      exact X_inv (i + 1) ⟨hi, before_succ h4 e1⟩ (by omega) (by repeat (first | exact trivial | refine And.intro ⟨_, rfl, SV.imp_refl _⟩ ?_)) (by repeat (first | exact trivial | refine And.intro ⟨_, rfl, Ch.imp_refl _⟩ ?_))
  · refine T_auto TT_ok rfl ?_
    exact T_ansB TT_ok [(2, none)] rfl rfl ((dec_true ⟨hH.1, by rw [risesB, anyN_no fun j hj => h4 j (by omega)]; rfl, h2, hR⟩).symm)

/-! ### places -/
def badPl (l : List Int) (k : Nat) : Bool := bif !inB (l.getD k 0) 0 7 then true else decide (l.getD k 0 ∈ l.take k)
def plOk (p : GPlace) : Prop := (1 ≤ p.machines.length ∧ p.machines.length ≤ 3) ∧ ∀ k, k < p.machines.length → badPl p.machines k = false
def PlOk (ps : List GPlace) : Prop := (1 ≤ ps.length ∧ ps.length ≤ 6) ∧ ∀ r, r < ps.length → plOk (ps.getD r GPlace.z)
theorem imp_take {P : Program} {α : Type} {sz k : Nat} {enc : α → List D} {z : α} {xs : List α} (hk : k ≤ xs.length) : (SV.a (.s .r sz k fun i => enc (xs.getD i z))).imp P (vL sz enc z (xs.take k)) := by
  have h : (SV.a (.s .r sz k fun i => enc (xs.getD i z))).imp P (.a (.s .r sz k fun i => enc ((xs.take k).getD i z))) := SV.imp_s fun i hi => by rw [getD_take (by rw [List.length_take]; omega)]
  have e : (xs.take k).length = k := by rw [List.length_take]; omega
  show SV.imp P _ (.a (.s .r sz (xs.take k).length _))
  rw [e]; exact h
theorem l3Has_take (l : List Int) (k : Nat) (hk : k ≤ l.length) (hl : l.length ≤ 1048576) (n : Int) : Ans Tryz.prog 112 [] [.a (.s .r 1 k fun i => cInt (l.getD i 0)), vI n] [] (vB (decide (n ∈ l.take k))) :=
  (l3Has_q (l.take k) (by rw [List.length_take]; omega) n).wkA ⟨_, _, rfl, imp_take hk, SVs.imp_refl _⟩
theorem contains_take (l : List Int) (k : Nat) (hk : k ≤ l.length) (hl : l.length ≤ 1048576) (n : Int) : Ans Tryz.prog 138 [] [.a (.s .r 1 k fun i => cInt (l.getD i 0)), vI n] [] (vB (decide (n ∈ l.take k))) :=
  (contains_Int_q (l.take k) (by rw [List.length_take]; omega) n).wkA ⟨_, _, rfl, imp_take hk, SVs.imp_refl _⟩
theorem spec_PlacesOk_q (ps : List GPlace) : Ans Tryz.prog 127 [] [vL 1 cPlace GPlace.z ps] [] (vB (dec (PlOk ps))) := by
  refine con_enter Tryz.func127 rfl rfl rfl fun B0 r_ D_ w0 => ?_
  refine T_auto TT_ok rfl ?_
  refine T_cond rfl (fun e => ?_) (fun e => ?_)
  · refine T_auto TT_ok rfl ?_
    exact T_ansB TT_ok [(2, none)] rfl rfl ((dec_false fun h => by have := h.1; simp at e; omega).symm)
  have hH : 1 ≤ ps.length ∧ ps.length ≤ 6 := by simp at e; omega
  clear e
  refine T_auto TT_ok rfl ?_
  refine T_loopA (ι := Nat) (fun i => [(3, vI i)]) (fun _ => []) (fun i => i ≤ ps.length ∧ ∀ j, j < i → plOk (ps.getD j GPlace.z)) (fun i => ps.length - i) 0 [] [] rfl rfl ⟨Nat.zero_le _, fun j hj => absurd hj (Nat.not_lt_zero _)⟩ (by repeat (first | exact trivial | refine And.intro ⟨_, rfl, SV.imp_refl _⟩ ?_)) (by repeat (first | exact trivial | refine And.intro ⟨_, rfl, Ch.imp_refl _⟩ ?_)) ?_
  intro i ⟨h1, h2⟩
  refine T_auto TT_ok rfl ?_
  refine T_condD rfl (fun e2 => ?_) (fun e2 => ?_)
  · have hi : i < ps.length := by omega
    refine T_auto TT_ok rfl ?_
    refine T_cond rfl (fun e => ?_) (fun e => ?_)
    · refine T_auto TT_ok rfl ?_
      exact T_ansB TT_ok [(2, none)] rfl rfl ((dec_false fun h => by have := (h.2 i hi).1; simp at e this; omega).symm)
    have hp : 1 ≤ (ps.getD i GPlace.z).machines.length ∧ (ps.getD i GPlace.z).machines.length ≤ 3 := by simp at e ⊢; omega
    clear e
    refine T_auto TT_ok rfl ?_
    refine T_loopA (ι := Nat) (fun k => [(5, vI k)]) (fun _ => []) (fun k => k ≤ (ps.getD i GPlace.z).machines.length ∧ ∀ j, j < k → badPl (ps.getD i GPlace.z).machines j = false) (fun k => (ps.getD i GPlace.z).machines.length - k) 0 [] [] rfl rfl ⟨Nat.zero_le _, fun j hj => absurd hj (Nat.not_lt_zero _)⟩ (by repeat (first | exact trivial | refine And.intro ⟨_, rfl, SV.imp_refl _⟩ ?_)) (by repeat (first | exact trivial | refine And.intro ⟨_, rfl, Ch.imp_refl _⟩ ?_)) ?_
    intro k ⟨h3, h4⟩
    refine T_auto TT_ok rfl ?_
    refine T_condD rfl (fun e3 => ?_) (fun e3 => ?_)
    · have hk : k < (ps.getD i GPlace.z).machines.length := by simp at e3 ⊢; omega
      refine T_auto TT_ok rfl ?_
      refine T_drawA TT_ok [] rfl rfl fun B0 H0 => ?_
      refine DJ_Q TT_ok (spec_l1Machine_q _) rfl rfl rfl rfl rfl rfl ?_
      refine DJ_Q TT_ok (l3Has_take (ps.getD i GPlace.z).machines k h3 (by omega) _) rfl rfl rfl rfl rfl rfl ?_
      refine DJ_endA TT_ok rfl ?_
      refine T_cond rfl (fun e1 => ?_) (fun e1 => ?_)
      · refine T_auto TT_ok rfl ?_
        exact T_ansB TT_ok [(2, none)] rfl rfl ((dec_false fun h => by have := ((h.2 i hi).2 k hk).symm.trans e1; cases this).symm)
      · refine T_auto TT_ok rfl ?_
        exact X_inv (k + 1) ⟨hk, before_succ h4 e1⟩ (by omega) (by repeat (first | exact trivial | refine And.intro ⟨_, rfl, SV.imp_refl _⟩ ?_)) (by repeat (first | exact trivial | refine And.intro ⟨_, rfl, Ch.imp_refl _⟩ ?_))
    · refine T_auto TT_ok rfl ?_
      exact X_inv (i + 1) ⟨hi, before_succ h2 ⟨hp, fun j hj => h4 j (by simp at e3 hj; omega)⟩⟩ (by omega) (by repeat (first | exact trivial | refine And.intro ⟨_, rfl, SV.imp_refl _⟩ ?_)) (by repeat (first | exact trivial | refine And.intro ⟨_, rfl, Ch.imp_refl _⟩ ?_))
  · refine T_auto TT_ok rfl ?_
    exact T_ansB TT_ok [(2, none)] rfl rfl ((dec_true ⟨hH, fun j hj => h2 j (by omega)⟩).symm)
theorem impl_arePlaces_q (ps : List GPlace) (hl : ps.length ≤ 1048576) (hm : ∀ i, i < ps.length → (ps.getD i GPlace.z).machines.length ≤ 1048576) : Ans Tryz.prog 73 [] [vL 1 cPlace GPlace.z ps] [] (vB (dec (PlOk ps))) := by
  refine con_enter Tryz.func73 rfl rfl rfl fun B0 r_ D_ w0 => ?_
  refine T_auto TT_ok rfl ?_
  refine T_loopA (ι := Nat) (fun i => [(9, vI i)]) (fun _ => []) (fun i => i ≤ ps.length ∧ ∀ j, j < i → plOk (ps.getD j GPlace.z)) (fun i => ps.length - i) 0 [] [] rfl rfl ⟨Nat.zero_le _, fun j hj => absurd hj (Nat.not_lt_zero _)⟩ (by repeat (first | exact trivial | refine And.intro ⟨_, rfl, SV.imp_refl _⟩ ?_)) (by repeat (first | exact trivial | refine And.intro ⟨_, rfl, Ch.imp_refl _⟩ ?_)) ?_
  intro i ⟨h1, h2⟩
  refine T_auto TT_ok rfl ?_
  refine T_condD rfl (fun e2 => ?_) (fun e2 => ?_)
  · have hi : i < ps.length := by omega
    have hml := hm i hi
    refine T_auto TT_ok rfl ?_
    refine RJ_Q TT_ok (sizeInt64_q _) rfl rfl rfl rfl rfl ?_
    refine RJ_Q TT_ok (impl_within_q _ _ _) rfl rfl rfl rfl rfl ?_
    refine T_condX rfl (fun e => ?_) (fun e => ?_)
    · refine T_auto TT_ok rfl ?_
      exact T_ansB TT_ok [(2, none)] rfl rfl ((dec_false fun h => by have := (h.2 i hi).1; exact inB_not.1 e ⟨by simp at this ⊢; omega, by simp at this ⊢; omega⟩).symm)
    have hp : 1 ≤ (ps.getD i GPlace.z).machines.length ∧ (ps.getD i GPlace.z).machines.length ≤ 3 := by have := inB_iff.1 e; simp at this ⊢; omega
    clear e
    refine T_auto TT_ok rfl ?_
    refine T_loopA (ι := Nat) (fun k => [(21, vI k)]) (fun _ => []) (fun k => k ≤ (ps.getD i GPlace.z).machines.length ∧ ∀ j, j < k → badPl (ps.getD i GPlace.z).machines j = false) (fun k => (ps.getD i GPlace.z).machines.length - k) 0 [] [] rfl rfl ⟨Nat.zero_le _, fun j hj => absurd hj (Nat.not_lt_zero _)⟩ (by repeat (first | exact trivial | refine And.intro ⟨_, rfl, SV.imp_refl _⟩ ?_)) (by repeat (first | exact trivial | refine And.intro ⟨_, rfl, Ch.imp_refl _⟩ ?_)) ?_
    intro k ⟨h3, h4⟩
    refine T_auto TT_ok rfl ?_
    refine T_condD rfl (fun e3 => ?_) (fun e3 => ?_)
    · have hk : k < (ps.getD i GPlace.z).machines.length := by simp at e3 ⊢; omega
      refine T_auto TT_ok rfl ?_
      refine RJ_Q TT_ok (impl_isMachine_q _) rfl rfl rfl rfl rfl ?_
      refine RJ_Q TT_ok (contains_take (ps.getD i GPlace.z).machines k h3 (by omega) _) rfl rfl rfl rfl rfl ?_
      refine T_cond rfl (fun e1 => ?_) (fun e1 => ?_)
      · refine T_auto TT_ok rfl ?_
        exact T_ansB TT_ok [(2, none)] rfl rfl ((dec_false fun h => by have := ((h.2 i hi).2 k hk).symm.trans e1; cases this).symm)
      · refine T_auto TT_ok rfl ?_
        exact X_inv (k + 1) ⟨hk, before_succ h4 e1⟩ (by omega) (by repeat (first | exact trivial | refine And.intro ⟨_, rfl, SV.imp_refl _⟩ ?_)) (by repeat (first | exact trivial | refine And.intro ⟨_, rfl, Ch.imp_refl _⟩ ?_))
    · refine T_auto TT_ok rfl ?_
      exact X_inv (i + 1) ⟨hi, before_succ h2 ⟨hp, fun j hj => h4 j (by simp at e3 hj; omega)⟩⟩ (by omega) (by repeat (first | exact trivial | refine And.intro ⟨_, rfl, SV.imp_refl _⟩ ?_)) (by repeat (first | exact trivial | refine And.intro ⟨_, rfl, Ch.imp_refl _⟩ ?_))
  · have hi : i = ps.length := by omega
    subst hi
    refine T_auto TT_ok rfl ?_
    refine RJ_Q TT_ok (sizePlace_q _) rfl rfl rfl rfl rfl ?_
    refine RJ_Q TT_ok (impl_within_q _ _ _) rfl rfl rfl rfl rfl ?_
    exact T_ansB TT_ok [(2, none)] rfl rfl ((by rw [Bool.eq_iff_iff, inB_iff, dec_iff]; exact ⟨fun h => ⟨by omega, h2⟩, fun h => by have := h.1; omega⟩))
end Go.Proofs.YtpfcfepbhdkpdaaGreat
