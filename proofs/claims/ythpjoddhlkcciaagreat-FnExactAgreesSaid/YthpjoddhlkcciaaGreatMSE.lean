/-
  Part E of what the claim leans on: memory, data, walks through the program, plain laws.
-/
import Derived.Test.YthpjoddhlkcciaaGreatMSD
namespace Go.Proofs.YthpjoddhlkcciaaGreat
open Go Go.RowKit
set_option linter.unusedVariables false
set_option linter.unusedSimpArgs false
section
set_option maxRecDepth 4000
structure GSet where
  region : Int
  slot : Int
  value : Int
  used : Bool
  version : Int
def GSet.z : GSet := ⟨0, 0, 0, false, 0⟩
structure GNote where
  region : Int
  slot : Int
  version : Int
  value : Int
  used : Bool
def GNote.z : GNote := ⟨0, 0, 0, 0, false⟩
structure GCell where
  head : Int
  value : Int
def GCell.z : GCell := ⟨0, 0⟩
structure GOp where
  kind : Int
  id : Int
  a : Int
  b : Int
  c : Int
def GOp.z : GOp := ⟨0, 0, 0, 0, 0⟩
structure GTx where
  id : Int
  home : Int
  phase : Int
  done : Int
  reads : List GNote
  sets : List GSet
  stamp : Int
def GTx.z : GTx := ⟨0, 0, 0, 0, [], [], 0⟩
abbrev dI (x : Int) : D := .v (.int .i64 x)
abbrev dB (x : Bool) : D := .v (.bool x)
def cInt (n : Int) : List D := [dI n]
def cBool (n : Bool) : List D := [dB n]
def cSet (n : GSet) : List D := [dI n.region, dI n.slot, dI n.value, dB n.used, dI n.version]
def cNote (n : GNote) : List D := [dI n.region, dI n.slot, dI n.version, dI n.value, dB n.used]
def cCell (n : GCell) : List D := [dI n.head, dI n.value]
def cTx (t : GTx) : List D := [dI t.id, dI t.home, dI t.phase, dI t.done, dL 5 cNote GNote.z t.reads, dL 5 cSet GSet.z t.sets, dI t.stamp]
def inB (x lo hi : Int) : Bool := bif decide (x ≥ lo) then decide (x ≤ hi) else false
theorem inB_iff {x lo hi : Int} : inB x lo hi = true ↔ lo ≤ x ∧ x ≤ hi := by
  unfold inB
  by_cases h : x ≥ lo <;> simp [h]
theorem inB_not {x lo hi : Int} : inB x lo hi = false ↔ ¬ (lo ≤ x ∧ x ≤ hi) := by rw [← inB_iff]; simp
theorem spec_l1In_q (x lo hi : Int) : Ans Tryz.prog 57 [] [vI x, vI lo, vI hi] [] (vB (inB x lo hi)) := by
  refine con_enter Tryz.func57 rfl rfl rfl fun B0 r_ D_ w0 => ?_
  refine T_auto TT_ok rfl ?_
  exact T_ansB TT_ok [(6, none)] rfl rfl (rfl)
theorem impl_within_q (x lo hi : Int) : Ans Tryz.prog 58 [] [vI x, vI lo, vI hi] [] (vB (inB x lo hi)) := by
  refine con_enter Tryz.func58 rfl rfl rfl fun B0 r_ D_ w0 => ?_
  refine T_auto TT_ok rfl ?_
  exact T_ansB TT_ok [(6, none)] rfl rfl (rfl)
theorem spec_l1Id_q (x : Int) : Ans Tryz.prog 67 [] [vI x] [] (vB (inB x (1) 1000000)) := by
  refine con_enter Tryz.func67 rfl rfl rfl fun B0 r_ D_ w0 => ?_
  refine T_auto TT_ok rfl ?_
  refine RJ_Q TT_ok (spec_l1In_q _ _ _) rfl rfl rfl rfl rfl ?_
  exact T_ansB TT_ok [(2, none)] rfl rfl (rfl)
theorem spec_l1Machine_q (x : Int) : Ans Tryz.prog 116 [] [vI x] [] (vB (inB x (0) 7)) := by
  refine con_enter Tryz.func116 rfl rfl rfl fun B0 r_ D_ w0 => ?_
  refine T_auto TT_ok rfl ?_
  refine RJ_Q TT_ok (spec_l1In_q _ _ _) rfl rfl rfl rfl rfl ?_
  exact T_ansB TT_ok [(2, none)] rfl rfl (rfl)
theorem spec_l1Region_q (x : Int) : Ans Tryz.prog 119 [] [vI x] [] (vB (inB x (0) 5)) := by
  refine con_enter Tryz.func119 rfl rfl rfl fun B0 r_ D_ w0 => ?_
  refine T_auto TT_ok rfl ?_
  refine RJ_Q TT_ok (spec_l1In_q _ _ _) rfl rfl rfl rfl rfl ?_
  exact T_ansB TT_ok [(2, none)] rfl rfl (rfl)
theorem spec_l1Slot_q (x : Int) : Ans Tryz.prog 170 [] [vI x] [] (vB (inB x (0) 5)) := by
  refine con_enter Tryz.func170 rfl rfl rfl fun B0 r_ D_ w0 => ?_
  refine T_auto TT_ok rfl ?_
  refine RJ_Q TT_ok (spec_l1In_q _ _ _) rfl rfl rfl rfl rfl ?_
  exact T_ansB TT_ok [(2, none)] rfl rfl (rfl)
theorem spec_l1Value_q (x : Int) : Ans Tryz.prog 168 [] [vI x] [] (vB (inB x (-1000000000) 1000000000)) := by
  refine con_enter Tryz.func168 rfl rfl rfl fun B0 r_ D_ w0 => ?_
  refine T_auto TT_ok rfl ?_
  refine RJ_Q TT_ok (spec_l1In_q _ _ _) rfl rfl rfl rfl rfl ?_
  exact T_ansB TT_ok [(2, none)] rfl rfl (rfl)
theorem spec_l1Version_q (x : Int) : Ans Tryz.prog 171 [] [vI x] [] (vB (inB x (0) 1000000)) := by
  refine con_enter Tryz.func171 rfl rfl rfl fun B0 r_ D_ w0 => ?_
  refine T_auto TT_ok rfl ?_
  refine RJ_Q TT_ok (spec_l1In_q _ _ _) rfl rfl rfl rfl rfl ?_
  exact T_ansB TT_ok [(2, none)] rfl rfl (rfl)
theorem spec_HeadOk_q (x : Int) : Ans Tryz.prog 109 [] [vI x] [] (vB (inB x (0) 4000003)) := by
  refine con_enter Tryz.func109 rfl rfl rfl fun B0 r_ D_ w0 => ?_
  refine T_auto TT_ok rfl ?_
  refine RJ_Q TT_ok (spec_l1In_q _ _ _) rfl rfl rfl rfl rfl ?_
  exact T_ansB TT_ok [(2, none)] rfl rfl (rfl)
theorem impl_isId_q (x : Int) : Ans Tryz.prog 85 [] [vI x] [] (vB (inB x (1) 1000000)) := by
  refine con_enter Tryz.func85 rfl rfl rfl fun B0 r_ D_ w0 => ?_
  refine T_auto TT_ok rfl ?_
  refine RJ_Q TT_ok (impl_within_q _ _ _) rfl rfl rfl rfl rfl ?_
  exact T_ansB TT_ok [(2, none)] rfl rfl (rfl)
theorem impl_isMachine_q (x : Int) : Ans Tryz.prog 137 [] [vI x] [] (vB (inB x (0) 7)) := by
  refine con_enter Tryz.func137 rfl rfl rfl fun B0 r_ D_ w0 => ?_
  refine T_auto TT_ok rfl ?_
  refine RJ_Q TT_ok (impl_within_q _ _ _) rfl rfl rfl rfl rfl ?_
  exact T_ansB TT_ok [(2, none)] rfl rfl (rfl)
theorem impl_isRegion_q (x : Int) : Ans Tryz.prog 143 [] [vI x] [] (vB (inB x (0) 5)) := by
  refine con_enter Tryz.func143 rfl rfl rfl fun B0 r_ D_ w0 => ?_
  refine T_auto TT_ok rfl ?_
  refine RJ_Q TT_ok (impl_within_q _ _ _) rfl rfl rfl rfl rfl ?_
  exact T_ansB TT_ok [(2, none)] rfl rfl (rfl)
theorem impl_isSlot_q (x : Int) : Ans Tryz.prog 187 [] [vI x] [] (vB (inB x (0) 5)) := by
  refine con_enter Tryz.func187 rfl rfl rfl fun B0 r_ D_ w0 => ?_
  refine T_auto TT_ok rfl ?_
  refine RJ_Q TT_ok (impl_within_q _ _ _) rfl rfl rfl rfl rfl ?_
  exact T_ansB TT_ok [(2, none)] rfl rfl (rfl)
theorem impl_isValue_q (x : Int) : Ans Tryz.prog 186 [] [vI x] [] (vB (inB x (-1000000000) 1000000000)) := by
  refine con_enter Tryz.func186 rfl rfl rfl fun B0 r_ D_ w0 => ?_
  refine T_auto TT_ok rfl ?_
  refine RJ_Q TT_ok (impl_within_q _ _ _) rfl rfl rfl rfl rfl ?_
  exact T_ansB TT_ok [(2, none)] rfl rfl (rfl)
theorem impl_isHead_q (x : Int) : Ans Tryz.prog 185 [] [vI x] [] (vB (inB x (0) 4000003)) := by
  refine con_enter Tryz.func185 rfl rfl rfl fun B0 r_ D_ w0 => ?_
  refine T_auto TT_ok rfl ?_
  refine RJ_Q TT_ok (impl_within_q _ _ _) rfl rfl rfl rfl rfl ?_
  exact T_ansB TT_ok [(2, none)] rfl rfl (rfl)
def noteB (n : GNote) : Bool := bif (bif (bif inB n.region 0 5 then inB n.slot 0 5 else false) then inB n.version 0 1000000 else false) then inB n.value (-1000000000) 1000000000 else false
def setB (s : GSet) : Bool := bif (bif (bif inB s.region 0 5 then inB s.slot 0 5 else false) then inB s.value (-1000000000) 1000000000 else false) then inB s.version 0 999999 else false
theorem spec_l7Note_q (n : GNote) : Ans Tryz.prog 122 [] [vR (cNote n)] [] (vB (noteB n)) := by
  refine con_enter Tryz.func122 rfl rfl rfl fun B0 r_ D_ w0 => ?_
  refine T_auto TT_ok rfl ?_
  refine RJ_Q TT_ok (spec_l1Region_q _) rfl rfl rfl rfl rfl ?_
  refine RJ_Q TT_ok (spec_l1Slot_q _) rfl rfl rfl rfl rfl ?_
  refine RJ_Q TT_ok (spec_l1Version_q _) rfl rfl rfl rfl rfl ?_
  refine RJ_Q TT_ok (spec_l1Value_q _) rfl rfl rfl rfl rfl ?_
  exact T_ansB TT_ok [(2, none)] rfl rfl (rfl)
theorem impl_isNote_q (n : GNote) : Ans Tryz.prog 145 [] [vR (cNote n)] [] (vB (noteB n)) := by
  refine con_enter Tryz.func145 rfl rfl rfl fun B0 r_ D_ w0 => ?_
  refine T_auto TT_ok rfl ?_
  refine RJ_Q TT_ok (impl_isRegion_q _) rfl rfl rfl rfl rfl ?_
  refine RJ_Q TT_ok (impl_isSlot_q _) rfl rfl rfl rfl rfl ?_
  refine RJ_Q TT_ok (impl_within_q _ _ _) rfl rfl rfl rfl rfl ?_
  refine RJ_Q TT_ok (impl_isValue_q _) rfl rfl rfl rfl rfl ?_
  exact T_ansB TT_ok [(2, none)] rfl rfl (rfl)
theorem spec_SetOk_q (n : GSet) : Ans Tryz.prog 124 [] [vR (cSet n)] [] (vB (setB n)) := by
  refine con_enter Tryz.func124 rfl rfl rfl fun B0 r_ D_ w0 => ?_
  refine T_auto TT_ok rfl ?_
  refine RJ_Q TT_ok (spec_l1Region_q _) rfl rfl rfl rfl rfl ?_
  refine RJ_Q TT_ok (spec_l1Slot_q _) rfl rfl rfl rfl rfl ?_
  refine RJ_Q TT_ok (spec_l1Value_q _) rfl rfl rfl rfl rfl ?_
  refine RJ_Q TT_ok (spec_l1In_q _ _ _) rfl rfl rfl rfl rfl ?_
  exact T_ansB TT_ok [(2, none)] rfl rfl (rfl)
theorem impl_isSet_q (n : GSet) : Ans Tryz.prog 147 [] [vR (cSet n)] [] (vB (setB n)) := by
  refine con_enter Tryz.func147 rfl rfl rfl fun B0 r_ D_ w0 => ?_
  refine T_auto TT_ok rfl ?_
  refine RJ_Q TT_ok (impl_isRegion_q _) rfl rfl rfl rfl rfl ?_
  refine RJ_Q TT_ok (impl_isSlot_q _) rfl rfl rfl rfl rfl ?_
  refine RJ_Q TT_ok (impl_isValue_q _) rfl rfl rfl rfl rfl ?_
  refine RJ_Q TT_ok (impl_within_q _ _ _) rfl rfl rfl rfl rfl ?_
  exact T_ansB TT_ok [(2, none)] rfl rfl (rfl)
def lessB (r s q t : Int) : Bool := bif decide (r < q) then true else bif r == q then decide (s < t) else false
theorem lessB_iff {r s q t : Int} : lessB r s q t = true ↔ r < q ∨ r = q ∧ s < t := by
  unfold lessB
  by_cases h : r < q <;> by_cases h2 : r = q <;> simp [h, h2]
theorem spec_l7Less_q (a b c d : Int) : Ans Tryz.prog 123 [] [vI a, vI b, vI c, vI d] [] (vB (lessB a b c d)) := by
  refine con_enter Tryz.func123 rfl rfl rfl fun B0 r_ D_ w0 => ?_
  refine T_auto TT_ok rfl ?_
  exact T_ansB TT_ok [(8, none)] rfl rfl (rfl)
def ordI (a b : Int) : Int := if a < b then -1 else if a > b then 1 else 0
theorem isNaN_q (a : Int) : Ans Tryz.prog 157 [] [vI a] [] (vB false) := by
  refine con_enter Tryz.func157 rfl rfl rfl fun B0 r_ D_ w0 => ?_
  refine T_auto TT_ok rfl ?_
  exact T_ansB TT_ok [(2, none)] rfl rfl (by simp)
theorem compare_q (a b : Int) : Ans Tryz.prog 104 [] [vI a, vI b] [] (vI (ordI a b)) := by
  refine con_enter Tryz.func104 rfl rfl rfl fun B0 r_ D_ w0 => ?_
  refine T_auto TT_ok rfl ?_
  refine RJ_Q TT_ok (isNaN_q _) rfl rfl rfl rfl rfl ?_
  refine RJ_Q TT_ok (isNaN_q _) rfl rfl rfl rfl rfl ?_
  refine T_cond rfl (fun e => by cases e) (fun _ => ?_)
  refine T_auto TT_ok rfl ?_
  refine T_cond rfl (fun e => by cases e) (fun _ => ?_)
  refine T_auto TT_ok rfl ?_
  refine T_condD rfl (fun e => ?_) (fun e => ?_)
  · refine T_auto TT_ok rfl ?_
    exact T_ansI TT_ok [(4, none)] rfl rfl (by rw [ordI, if_pos e])
  refine T_auto TT_ok rfl ?_
  refine T_condD rfl (fun e2 => ?_) (fun e2 => ?_)
  · refine T_auto TT_ok rfl ?_
    exact T_ansI TT_ok [(4, none)] rfl rfl (by rw [ordI, if_neg e, if_pos e2])
  refine T_auto TT_ok rfl ?_
  exact T_ansI TT_ok [(4, none)] rfl rfl (by rw [ordI, if_neg e, if_neg e2])
def orL : List Int → Int
  | [] => 0
  | x :: r => if x ≠ 0 then x else orL r
theorem orL_at : ∀ {xs : List Int} {i : Nat}, i < xs.length → (∀ j, j < i → xs.getD j 0 = 0) → xs.getD i 0 ≠ 0 → orL xs = xs.getD i 0
  | x :: r, 0, _, _, h => by simp at h; simp [orL, h]
  | x :: r, i + 1, hi, h0, h => by
    have hx : x = 0 := by simpa using h0 0 (by omega)
    simp only [orL, hx]
    simp only [ne_eq, not_true_eq_false, if_false]
    rw [orL_at (by simpa using hi) (fun j hj => by simpa using h0 (j + 1) (by omega)) (by simpa using h)]
    simp
theorem orL_no : ∀ {xs : List Int}, (∀ j, j < xs.length → xs.getD j 0 = 0) → orL xs = 0
  | [], _ => rfl
  | x :: r, h => by
    have hx : x = 0 := by simpa using h 0 (by simp)
    simp only [orL, hx, ne_eq, not_true_eq_false, if_false]
    exact orL_no fun j hj => by simpa using h (j + 1) (by simpa using hj)
theorem before_succ {P : Nat → Prop} {i : Nat} (h : ∀ j, j < i → P j) (k : P i) : ∀ j, j < i + 1 → P j := fun j hj => by
  by_cases e : j = i
  · subst e; exact k
  · exact h j (by omega)
theorem cmpOr_q (xs : List Int) (hl : xs.length ≤ maxL) : Ans Tryz.prog 188 [] [vL 1 cInt 0 xs] [] (vI (orL xs)) := by
  unfold maxL at hl
  refine con_enter Tryz.func188 rfl rfl rfl fun B0 r_ D_ w0 => ?_
  refine T_auto TT_ok rfl ?_
  refine T_loopA (ι := Nat) (fun i => [(8, vI i)]) (fun _ => []) (fun i => i ≤ xs.length ∧ ∀ j, j < i → xs.getD j 0 = 0) (fun i => xs.length - i) 0 [] [] rfl rfl ⟨Nat.zero_le _, fun j hj => absurd hj (Nat.not_lt_zero _)⟩ (by repeat (first | exact trivial | refine And.intro ⟨_, rfl, SV.imp_refl _⟩ ?_)) (by repeat (first | exact trivial | refine And.intro ⟨_, rfl, Ch.imp_refl _⟩ ?_)) ?_
  intro i ⟨h1, h2⟩
  refine T_auto TT_ok rfl ?_
  refine T_condD rfl (fun e => ?_) (fun e => ?_)
  · refine T_auto TT_ok rfl ?_
    refine T_condN rfl (fun e2 => ?_) (fun e2 => ?_)
    · refine T_auto TT_ok rfl ?_
      exact T_ansI TT_ok [(2, none)] rfl rfl ((orL_at (by omega) h2 (by simpa using e2)).symm)
    · refine T_auto TT_ok rfl ?_
      exact X_inv (i + 1) ⟨by omega, before_succ h2 (by simpa using e2)⟩ (by omega) (by repeat (first | exact trivial | refine And.intro ⟨_, rfl, SV.imp_refl _⟩ ?_)) (by repeat (first | exact trivial | refine And.intro ⟨_, rfl, Ch.imp_refl _⟩ ?_))
  · refine T_auto TT_ok rfl ?_
    exact T_ansI TT_ok [(2, none)] rfl rfl ((orL_no fun j hj => h2 j (by omega)).symm)
def cmpC (r s q t : Int) : Int := orL [ordI r q, ordI s t]
theorem cmpC_less {r s q t : Int} : decide (cmpC r s q t < 0) = lessB r s q t := by
  unfold cmpC lessB orL orL ordI
  by_cases h : r < q
  · simp [h]
  · by_cases h2 : r = q
    · subst h2; by_cases h3 : s < t <;> by_cases h4 : s > t <;> simp [h3, h4, orL]
    · have : r > q := by omega
      simp [h, h2, this, orL]
theorem cmpC_ge {r s q t : Int} : decide (cmpC r s q t ≥ 0) = !lessB r s q t := by
  rw [← cmpC_less]
  by_cases h : cmpC r s q t < 0
  · rw [decide_eq_true h, decide_eq_false (by omega)]; rfl
  · rw [decide_eq_false h, decide_eq_true (by omega)]; rfl
theorem compareCells_q (a b c d : Int) : Ans Tryz.prog 146 [] [vI a, vI b, vI c, vI d] [] (vI (cmpC a b c d)) := by
  refine con_enter Tryz.func146 rfl rfl rfl fun B0 r_ D_ w0 => ?_
  refine T_auto TT_ok rfl ?_
  refine RJ_Q TT_ok (compare_q _ _) rfl rfl rfl rfl rfl ?_
  refine RJ_Q TT_ok (compare_q _ _) rfl rfl rfl rfl rfl ?_
  refine RJ_bs TT_ok 900 (fun i => cInt ([ordI a c, ordI b d].getD i 0)) rfl rfl rfl rfl rfl rfl rfl (fun i hi => by rcases i with _ | _ | i <;> first | rfl | omega) (mu1 := []) rfl rfl rfl ?_
  refine RJ_auto TT_ok rfl ?_
  refine RJ_Q TT_ok (cmpOr_q [ordI a c, ordI b d] (Nat.le_of_ble_eq_true rfl)) rfl rfl rfl rfl rfl ?_
  exact T_ansI TT_ok [(8, none)] rfl rfl (rfl)
end
section
set_option maxRecDepth 4000
open Classical in
noncomputable def dec (p : Prop) : Bool := if p then true else false
theorem dec_true {p : Prop} (h : p) : dec p = true := by simp [dec, h]
theorem dec_false {p : Prop} (h : ¬ p) : dec p = false := by simp [dec, h]
theorem dec_iff {p : Prop} : dec p = true ↔ p := by simp [dec]
theorem dec_not {p : Prop} : dec p = false ↔ ¬ p := by simp [dec]
def lessN (a b : GNote) : Prop := a.region < b.region ∨ a.region = b.region ∧ a.slot < b.slot
def lessS (a b : GSet) : Prop := a.region < b.region ∨ a.region = b.region ∧ a.slot < b.slot
def readsOk (xs : List GNote) (n : Nat) : Prop := ∀ j, j < n → noteB (xs.getD j GNote.z) = true ∧ (0 < j → lessN (xs.getD (j - 1) GNote.z) (xs.getD j GNote.z))
def setsOk (xs : List GSet) (n : Nat) : Prop := ∀ j, j < n → setB (xs.getD j GSet.z) = true ∧ (0 < j → lessS (xs.getD (j - 1) GSet.z) (xs.getD j GSet.z))
def headOk (t : GTx) : Prop := (1 ≤ t.id ∧ t.id ≤ 1000000) ∧ (0 ≤ t.home ∧ t.home ≤ 7) ∧ (1 ≤ t.phase ∧ t.phase ≤ 9) ∧ (0 ≤ t.done ∧ t.done ≤ 1000) ∧ (0 ≤ t.stamp ∧ t.stamp ≤ 1000000) ∧ t.reads.length ≤ 12 ∧ t.sets.length ≤ 12
def TxOk (t : GTx) : Prop := headOk t ∧ readsOk t.reads t.reads.length ∧ setsOk t.sets t.sets.length
theorem readsOk.succ {xs : List GNote} {i : Nat} (h : readsOk xs i) (h1 : noteB (xs.getD i GNote.z) = true) (h2 : 0 < i → lessN (xs.getD (i - 1) GNote.z) (xs.getD i GNote.z)) : readsOk xs (i + 1) := fun j hj => by
  rcases Nat.lt_succ_iff_lt_or_eq.1 hj with h3 | h3
  · exact h j h3
  · subst h3; exact ⟨h1, h2⟩
theorem setsOk.succ {xs : List GSet} {i : Nat} (h : setsOk xs i) (h1 : setB (xs.getD i GSet.z) = true) (h2 : 0 < i → lessS (xs.getD (i - 1) GSet.z) (xs.getD i GSet.z)) : setsOk xs (i + 1) := fun j hj => by
  rcases Nat.lt_succ_iff_lt_or_eq.1 hj with h3 | h3
  · exact h j h3
  · subst h3; exact ⟨h1, h2⟩
theorem toNat_pred {i : Nat} (h : 0 < i) : ((i : Int) - 1).toNat = i - 1 := by omega
theorem spec_TxOk_q (t : GTx) : Ans Tryz.prog 71 [] [vR (cTx t)] [] (vB (dec (TxOk t))) := by
  refine con_enter Tryz.func71 rfl rfl rfl fun B0 r_ D_ w0 => ?_
  refine T_auto TT_ok rfl ?_
  refine RJ_Q TT_ok (spec_l1Id_q _) rfl rfl rfl rfl rfl ?_
  refine RJ_Q TT_ok (spec_l1Machine_q _) rfl rfl rfl rfl rfl ?_
  refine RJ_Q TT_ok (spec_l1In_q _ _ _) rfl rfl rfl rfl rfl ?_
  refine RJ_Q TT_ok (spec_l1In_q _ _ _) rfl rfl rfl rfl rfl ?_
  refine RJ_Q TT_ok (spec_l1In_q _ _ _) rfl rfl rfl rfl rfl ?_
  refine T_cond rfl (fun e => ?_) (fun e => ?_)
  · refine T_auto TT_ok rfl ?_
    refine (?_ : ¬ TxOk t → _) ?_
    · intro hf
      exact T_ansB TT_ok [(2, none)] rfl rfl ((dec_false hf).symm)
    intro h
    obtain ⟨⟨h1, h2, h3, h4, h5, h6, h7⟩, _⟩ := h
    simp only [inB_iff.2 h1, inB_iff.2 h2, inB_iff.2 h3, inB_iff.2 h4, inB_iff.2 h5] at e
    simp at e
    omega
  have hH : headOk t := by
    simp only [Bool.cond_true_left, Bool.or_eq_false_iff, Bool.not_eq_false', inB_iff, decide_eq_false_iff_not] at e
    unfold headOk
    omega
  clear e
  have hr1 : t.reads.length ≤ 12 := hH.2.2.2.2.2.1
  have hr2 : t.sets.length ≤ 12 := hH.2.2.2.2.2.2
  refine T_auto TT_ok rfl ?_
  refine T_loopA (ι := Nat) (fun i => [(3, vI i)]) (fun _ => []) (fun i => i ≤ t.reads.length ∧ readsOk t.reads i) (fun i => t.reads.length - i) 0 [] [] rfl rfl ⟨Nat.zero_le _, fun j hj => absurd hj (Nat.not_lt_zero _)⟩ (by repeat (first | exact trivial | refine And.intro ⟨_, rfl, SV.imp_refl _⟩ ?_)) (by repeat (first | exact trivial | refine And.intro ⟨_, rfl, Ch.imp_refl _⟩ ?_)) ?_
  intro i ⟨h1, h2⟩
  refine T_auto TT_ok rfl ?_
  refine T_condD rfl (fun e => ?_) (fun e => ?_)
  · have hi : i < t.reads.length := by omega
    refine T_auto TT_ok rfl ?_
    refine T_drawA TT_ok [] rfl rfl fun B0 H0 => ?_
    refine DJ_Q TT_ok (spec_l7Note_q _) rfl rfl rfl rfl rfl rfl ?_
    refine DJ_Q TT_ok (spec_l7Less_q _ _ _ _) rfl rfl rfl rfl rfl rfl ?_
    refine DJ_endA TT_ok rfl ?_
    refine T_cond rfl (fun e1 => ?_) (fun e1 => ?_) <;> simp only [Int.toNat_natCast] at e1
    · refine T_auto TT_ok rfl ?_
      refine (?_ : ¬ TxOk t → _) ?_
      · intro hf
        exact T_ansB TT_ok [(2, none)] rfl rfl ((dec_false hf).symm)
      intro h
      obtain ⟨g1, g2⟩ := h.2.1 i hi
      simp only [g1] at e1
      by_cases hp : 0 < i
      · rw [toNat_pred hp, lessB_iff.2 (g2 hp)] at e1
        simp at e1
      · simp [show i = 0 from by omega] at e1
    · have g1 : noteB (t.reads.getD i GNote.z) = true := by
        cases hb : noteB (t.reads.getD i GNote.z) with
        | true => rfl
        | false => rw [hb] at e1; simp at e1
      have g2 : 0 < i → lessN (t.reads.getD (i - 1) GNote.z) (t.reads.getD i GNote.z) := fun hp => by
        rw [toNat_pred hp] at e1
        simp only [g1] at e1
        refine lessB_iff.1 ?_
        simpa [hp] using e1
      refine T_auto TT_ok rfl ?_
      exact X_inv (i + 1) ⟨hi, readsOk.succ h2 g1 g2⟩ (by omega) (by repeat (first | exact trivial | refine And.intro ⟨_, rfl, SV.imp_refl _⟩ ?_)) (by repeat (first | exact trivial | refine And.intro ⟨_, rfl, Ch.imp_refl _⟩ ?_))
  have hi : i = t.reads.length := by omega
  subst hi
  have h3 : readsOk t.reads t.reads.length := h2
  clear h2 h1 e
  refine T_auto TT_ok rfl ?_
  refine T_loopA (ι := Nat) (fun i => [(5, vI i)]) (fun _ => []) (fun i => i ≤ t.sets.length ∧ setsOk t.sets i) (fun i => t.sets.length - i) 0 [] [] rfl rfl ⟨Nat.zero_le _, fun j hj => absurd hj (Nat.not_lt_zero _)⟩ (by repeat (first | exact trivial | refine And.intro ⟨_, rfl, SV.imp_refl _⟩ ?_)) (by repeat (first | exact trivial | refine And.intro ⟨_, rfl, Ch.imp_refl _⟩ ?_)) ?_
  intro i ⟨h1, h4⟩
  refine T_auto TT_ok rfl ?_
  refine T_condD rfl (fun e => ?_) (fun e => ?_)
  · have hi : i < t.sets.length := by omega
    refine T_auto TT_ok rfl ?_
    refine T_drawA TT_ok [] rfl rfl fun B0 H0 => ?_
    refine DJ_Q TT_ok (spec_SetOk_q _) rfl rfl rfl rfl rfl rfl ?_
    refine DJ_Q TT_ok (spec_l7Less_q _ _ _ _) rfl rfl rfl rfl rfl rfl ?_
    refine DJ_endA TT_ok rfl ?_
    refine T_cond rfl (fun e1 => ?_) (fun e1 => ?_) <;> simp only [Int.toNat_natCast] at e1
    · refine T_auto TT_ok rfl ?_
      refine (?_ : ¬ TxOk t → _) ?_
      · intro hf
        exact T_ansB TT_ok [(2, none)] rfl rfl ((dec_false hf).symm)
      intro h
      obtain ⟨g1, g2⟩ := h.2.2 i hi
      simp only [g1] at e1
      by_cases hp : 0 < i
      · rw [toNat_pred hp, lessB_iff.2 (g2 hp)] at e1
        simp at e1
      · simp [show i = 0 from by omega] at e1
    · have g1 : setB (t.sets.getD i GSet.z) = true := by
        cases hb : setB (t.sets.getD i GSet.z) with
        | true => rfl
        | false => rw [hb] at e1; simp at e1
      have g2 : 0 < i → lessS (t.sets.getD (i - 1) GSet.z) (t.sets.getD i GSet.z) := fun hp => by
        rw [toNat_pred hp] at e1
        simp only [g1] at e1
        refine lessB_iff.1 ?_
        simpa [hp] using e1
      refine T_auto TT_ok rfl ?_
      exact X_inv (i + 1) ⟨hi, setsOk.succ h4 g1 g2⟩ (by omega) (by repeat (first | exact trivial | refine And.intro ⟨_, rfl, SV.imp_refl _⟩ ?_)) (by repeat (first | exact trivial | refine And.intro ⟨_, rfl, Ch.imp_refl _⟩ ?_))
  have hi : i = t.sets.length := by omega
  subst hi
  have h5 : setsOk t.sets t.sets.length := h4
  clear h4 h1 e
  refine T_auto TT_ok rfl ?_
  exact T_ansB TT_ok [(2, none)] rfl rfl ((dec_true ⟨hH, h3, h5⟩).symm)
theorem impl_isTx_q (t : GTx) : Ans Tryz.prog 90 [] [vR (cTx t)] [] (vB (dec (TxOk t))) := by
  refine con_enter Tryz.func90 rfl rfl rfl fun B0 r_ D_ w0 => ?_
  refine T_auto TT_ok rfl ?_
  refine RJ_Q TT_ok (impl_isId_q _) rfl rfl rfl rfl rfl ?_
  refine RJ_Q TT_ok (impl_isMachine_q _) rfl rfl rfl rfl rfl ?_
  refine RJ_Q TT_ok (impl_within_q _ _ _) rfl rfl rfl rfl rfl ?_
  refine RJ_Q TT_ok (impl_within_q _ _ _) rfl rfl rfl rfl rfl ?_
  refine RJ_Q TT_ok (impl_within_q _ _ _) rfl rfl rfl rfl rfl ?_
  refine T_cond rfl (fun e => ?_) (fun e => ?_)
  · refine T_auto TT_ok rfl ?_
    refine (?_ : ¬ TxOk t → _) ?_
    · intro hf
      exact T_ansB TT_ok [(2, none)] rfl rfl ((dec_false hf).symm)
    intro h
    obtain ⟨⟨h1, h2, h3, h4, h5, h6, h7⟩, _⟩ := h
    simp only [inB_iff.2 h1, inB_iff.2 h2, inB_iff.2 h3, inB_iff.2 h4, inB_iff.2 h5] at e
    simp at e
    omega
  have hH : headOk t := by
    simp only [Bool.cond_true_left, Bool.or_eq_false_iff, Bool.not_eq_false', inB_iff, decide_eq_false_iff_not] at e
    unfold headOk
    omega
  clear e
  have hr1 : t.reads.length ≤ 12 := hH.2.2.2.2.2.1
  have hr2 : t.sets.length ≤ 12 := hH.2.2.2.2.2.2
  refine T_auto TT_ok rfl ?_
  refine T_loopA (ι := Nat) (fun i => [(50, vI i)]) (fun _ => []) (fun i => i ≤ t.reads.length ∧ readsOk t.reads i) (fun i => t.reads.length - i) 0 [] [] rfl rfl ⟨Nat.zero_le _, fun j hj => absurd hj (Nat.not_lt_zero _)⟩ (by repeat (first | exact trivial | refine And.intro ⟨_, rfl, SV.imp_refl _⟩ ?_)) (by repeat (first | exact trivial | refine And.intro ⟨_, rfl, Ch.imp_refl _⟩ ?_)) ?_
  intro i ⟨h1, h2⟩
  refine T_auto TT_ok rfl ?_
  refine T_condD rfl (fun e => ?_) (fun e => ?_)
  · have hi : i < t.reads.length := by omega
    refine T_auto TT_ok rfl ?_
    refine T_drawA TT_ok [] rfl rfl fun B0 H0 => ?_
    refine DJ_Q TT_ok (impl_isNote_q _) rfl rfl rfl rfl rfl rfl ?_
    refine DJ_Q TT_ok (compareCells_q _ _ _ _) rfl rfl rfl rfl rfl rfl ?_
    refine DJ_endA TT_ok rfl ?_
    refine T_cond rfl (fun e1 => ?_) (fun e1 => ?_) <;> simp only [Int.toNat_natCast] at e1
    · refine T_auto TT_ok rfl ?_
      refine (?_ : ¬ TxOk t → _) ?_
      · intro hf
        exact T_ansB TT_ok [(2, none)] rfl rfl ((dec_false hf).symm)
      intro h
      obtain ⟨g1, g2⟩ := h.2.1 i hi
      simp only [cmpC_ge, g1] at e1
      by_cases hp : 0 < i
      · rw [toNat_pred hp, lessB_iff.2 (g2 hp)] at e1
        simp at e1
      · simp [show i = 0 from by omega] at e1
    · have g1 : noteB (t.reads.getD i GNote.z) = true := by
        cases hb : noteB (t.reads.getD i GNote.z) with
        | true => rfl
        | false => rw [hb] at e1; simp at e1
      have g2 : 0 < i → lessN (t.reads.getD (i - 1) GNote.z) (t.reads.getD i GNote.z) := fun hp => by
        rw [toNat_pred hp] at e1
        simp only [cmpC_ge, g1] at e1
        refine lessB_iff.1 ?_
        simpa [hp] using e1
      refine T_auto TT_ok rfl ?_
      exact X_inv (i + 1) ⟨hi, readsOk.succ h2 g1 g2⟩ (by omega) (by repeat (first | exact trivial | refine And.intro ⟨_, rfl, SV.imp_refl _⟩ ?_)) (by repeat (first | exact trivial | refine And.intro ⟨_, rfl, Ch.imp_refl _⟩ ?_))
  have hi : i = t.reads.length := by omega
  subst hi
  have h3 : readsOk t.reads t.reads.length := h2
  clear h2 h1 e
  refine T_auto TT_ok rfl ?_
  refine T_loopA (ι := Nat) (fun i => [(88, vI i)]) (fun _ => []) (fun i => i ≤ t.sets.length ∧ setsOk t.sets i) (fun i => t.sets.length - i) 0 [] [] rfl rfl ⟨Nat.zero_le _, fun j hj => absurd hj (Nat.not_lt_zero _)⟩ (by repeat (first | exact trivial | refine And.intro ⟨_, rfl, SV.imp_refl _⟩ ?_)) (by repeat (first | exact trivial | refine And.intro ⟨_, rfl, Ch.imp_refl _⟩ ?_)) ?_
  intro i ⟨h1, h4⟩
  refine T_auto TT_ok rfl ?_
  refine T_condD rfl (fun e => ?_) (fun e => ?_)
  · have hi : i < t.sets.length := by omega
    refine T_auto TT_ok rfl ?_
    refine T_drawA TT_ok [] rfl rfl fun B0 H0 => ?_
    refine DJ_Q TT_ok (impl_isSet_q _) rfl rfl rfl rfl rfl rfl ?_
    refine DJ_Q TT_ok (compareCells_q _ _ _ _) rfl rfl rfl rfl rfl rfl ?_
    refine DJ_endA TT_ok rfl ?_
    refine T_cond rfl (fun e1 => ?_) (fun e1 => ?_) <;> simp only [Int.toNat_natCast] at e1
    · refine T_auto TT_ok rfl ?_
      refine (?_ : ¬ TxOk t → _) ?_
      · intro hf
        exact T_ansB TT_ok [(2, none)] rfl rfl ((dec_false hf).symm)
      intro h
      obtain ⟨g1, g2⟩ := h.2.2 i hi
      simp only [cmpC_ge, g1] at e1
      by_cases hp : 0 < i
      · rw [toNat_pred hp, lessB_iff.2 (g2 hp)] at e1
        simp at e1
      · simp [show i = 0 from by omega] at e1
    · have g1 : setB (t.sets.getD i GSet.z) = true := by
        cases hb : setB (t.sets.getD i GSet.z) with
        | true => rfl
        | false => rw [hb] at e1; simp at e1
      have g2 : 0 < i → lessS (t.sets.getD (i - 1) GSet.z) (t.sets.getD i GSet.z) := fun hp => by
        rw [toNat_pred hp] at e1
        simp only [cmpC_ge, g1] at e1
        refine lessB_iff.1 ?_
        simpa [hp] using e1
      refine T_auto TT_ok rfl ?_
      exact X_inv (i + 1) ⟨hi, setsOk.succ h4 g1 g2⟩ (by omega) (by repeat (first | exact trivial | refine And.intro ⟨_, rfl, SV.imp_refl _⟩ ?_)) (by repeat (first | exact trivial | refine And.intro ⟨_, rfl, Ch.imp_refl _⟩ ?_))
  have hi : i = t.sets.length := by omega
  subst hi
  have h5 : setsOk t.sets t.sets.length := h4
  clear h4 h1 e
  refine T_auto TT_ok rfl ?_
  exact T_ansB TT_ok [(2, none)] rfl rfl ((dec_true ⟨hH, h3, h5⟩).symm)
open Classical in
noncomputable def toldM (t : GTx) : Int := if TxOk t then (if t.phase = 5 ∧ t.done > 0 ∨ t.phase = 6 ∨ t.phase = 7 then 1 else if t.phase = 8 ∨ t.phase = 9 then 2 else 0) else -1
theorem specTold_q (t : GTx) : Ans Tryz.prog 34 [] [vR (cTx t)] [] (vI (toldM t)) := by
  refine con_enter Tryz.func34 rfl rfl rfl fun B0 r_ D_ w0 => ?_
  refine T_auto TT_ok rfl ?_
  refine RJ_Q TT_ok (spec_TxOk_q _) rfl rfl rfl rfl rfl ?_
  refine T_condX rfl (fun e => ?_) (fun e => ?_)
  · refine T_auto TT_ok rfl ?_
    exact T_ansI TT_ok [(2, none)] rfl rfl (by rw [toldM, if_neg (dec_not.1 e)])
  have hT := dec_iff.1 e
  refine T_auto TT_ok rfl ?_
  refine T_condE rfl (fun e5 => ?_) (fun e5 => ?_)
  · refine T_auto TT_ok rfl ?_
    refine T_condD rfl (fun e => ?_) (fun e => ?_)
    · refine T_auto TT_ok rfl ?_
      exact T_ansI TT_ok [(2, none)] rfl rfl (by rw [toldM, if_pos hT, if_pos (by omega)])
    · refine T_auto TT_ok rfl ?_
      exact T_ansI TT_ok [(2, none)] rfl rfl (by rw [toldM, if_pos hT, if_neg (by omega), if_neg (by omega)])
  refine T_auto TT_ok rfl ?_
  refine T_condE rfl (fun e6 => ?_) (fun e6 => ?_)
  · refine T_auto TT_ok rfl ?_
    refine T_condE rfl (fun _ => ?_) (fun h => absurd e6 h)
    refine T_auto TT_ok rfl ?_
    exact T_ansI TT_ok [(2, none)] rfl rfl (by rw [toldM, if_pos hT, if_pos (by omega)])
  refine T_auto TT_ok rfl ?_
  refine T_condE rfl (fun e7 => ?_) (fun e7 => ?_)
  · refine T_auto TT_ok rfl ?_
    exact T_ansI TT_ok [(2, none)] rfl rfl (by rw [toldM, if_pos hT, if_pos (by omega)])
  refine T_auto TT_ok rfl ?_
  refine T_condE rfl (fun e8 => ?_) (fun e8 => ?_)
  · refine T_auto TT_ok rfl ?_
    refine T_condE rfl (fun _ => ?_) (fun h => absurd e8 h)
    refine T_auto TT_ok rfl ?_
    exact T_ansI TT_ok [(2, none)] rfl rfl (by rw [toldM, if_pos hT, if_neg (by omega), if_pos (by omega)])
  refine T_auto TT_ok rfl ?_
  refine T_condE rfl (fun e9 => ?_) (fun e9 => ?_)
  · refine T_auto TT_ok rfl ?_
    exact T_ansI TT_ok [(2, none)] rfl rfl (by rw [toldM, if_pos hT, if_neg (by omega), if_pos (by omega)])
  refine T_auto TT_ok rfl ?_
  exact T_ansI TT_ok [(2, none)] rfl rfl (by rw [toldM, if_pos hT, if_neg (by omega), if_neg (by omega)])
def doneB (t : GTx) : Bool := decide (t.phase = 5 ∧ t.done > 0 ∨ t.phase = 6 ∨ t.phase = 7)
end
end Go.Proofs.YthpjoddhlkcciaaGreat
namespace Go.Proofs.YthpjoddhlkcciaaGreat
open Go Go.RowKit
set_option linter.unusedVariables false
set_option linter.unusedSimpArgs false
section
set_option maxRecDepth 4000
theorem toSet_q (a : GSet) : Ans Tryz.prog 177 [] [vR (cSet a)] [] (vR (cSet a)) := by
  refine con_enter Tryz.func177 rfl rfl rfl fun B0 r_ D_ w0 => ?_
  refine T_auto TT_ok rfl ?_
  exact T_ans TT_ok [(2, some 112)] rfl rfl (rfl)
theorem eqSet_q (a : GSet) : Ans Tryz.prog 192 [] [vR (cSet a), vR (cSet a)] [] (vB true) := by
  refine con_enter Tryz.func192 rfl rfl rfl fun B0 r_ D_ w0 => ?_
  refine T_auto TT_ok rfl ?_
  refine T_condN rfl (fun e => absurd rfl e) (fun _ => ?_)
  refine T_auto TT_ok rfl ?_
  refine T_condN rfl (fun e => absurd rfl e) (fun _ => ?_)
  refine T_auto TT_ok rfl ?_
  refine T_condN rfl (fun e => absurd rfl e) (fun _ => ?_)
  refine T_auto TT_ok rfl ?_
  refine T_condX rfl (fun e => by simp at e) (fun _ => ?_)
  refine T_auto TT_ok rfl ?_
  refine T_condN rfl (fun e => absurd rfl e) (fun _ => ?_)
  refine T_auto TT_ok rfl ?_
  exact T_ansB TT_ok [(4, none)] rfl rfl (rfl)
theorem toSetS_m (xs : List GSet) (hl : xs.length ≤ 1048576) : MkL Tryz.prog 135 [vL 5 cSet GSet.z xs] 5 cSet GSet.z xs := by
  refine con_enter Tryz.func135 rfl rfl rfl fun B0 r_ D_ w0 => ?_
  refine T_auto TT_ok rfl ?_
  refine RJ_make TT_ok 7 xs.length rfl rfl rfl rfl rfl rfl rfl ⟨by simp; omega, by unfold maxL; omega⟩ ?_
  refine RJ_auto TT_ok rfl ?_
  refine T_loopA (ι := Nat) (fun i => [(4, vI i)]) (fun i => [(7, .arr 5 xs.length fun k => cSet (if k < i then xs.getD k GSet.z else GSet.z))]) (fun i => i ≤ xs.length) (fun i => xs.length - i) 0 [7] [] rfl rfl (Nat.zero_le _) (by repeat (first | exact trivial | refine And.intro ⟨_, rfl, SV.imp_refl _⟩ ?_)) ⟨⟨_, rfl, Ch.imp_arr fun k hk => by rw [if_neg (Nat.not_lt_zero _)]; rfl⟩, trivial⟩ ?_
  intro i h1
  refine T_auto TT_ok rfl ?_
  refine T_condD rfl (fun e => ?_) (fun e => ?_)
  · have hi : i < xs.length := by omega
    refine T_auto TT_ok rfl ?_
    refine RJ_Q TT_ok (toSet_q _) rfl rfl rfl rfl rfl ?_
    exact X_inv (i + 1) hi (by omega) (by repeat (first | exact trivial | refine And.intro ⟨_, rfl, SV.imp_refl _⟩ ?_)) ⟨⟨_, rfl, Ch.imp_arr fun k hk => fill_step (fun x => cSet x) rfl⟩, (by repeat (first | exact trivial | refine And.intro ⟨_, rfl, Ch.imp_refl _⟩ ?_))⟩
  · have hi : i = xs.length := by omega
    subst hi
    refine T_auto TT_ok rfl ?_
    refine T_view (V_sw 7 900) ?_
    refine T_ret TT_ok (()) [(2, none)] rfl rfl ?_ ?_ ?_
    · exact SVs.imp_refl _
    · exact ⟨⟨_, rfl, Ch.imp_arr fun k hk => by rw [if_pos hk]⟩, trivial⟩
    · trivial
theorem szSetS_q (xs : List GSet) (hx : xs.length ≤ maxL) (l : Int) (h1 : 0 ≤ l) (h2 : l ≤ 1048576) : Ans Tryz.prog 129 [] [vL 5 cSet GSet.z xs, vI l] [] (vI (szI l xs.length)) := by
  unfold maxL at hx
  refine con_enter Tryz.func129 rfl rfl rfl fun B0 r_ D_ w0 => ?_
  refine T_auto TT_ok rfl ?_
  refine T_condD rfl (fun e => ?_) (fun e => ?_)
  · refine T_auto TT_ok rfl ?_
    exact T_ansI TT_ok [(4, none)] rfl rfl (by rw [szI, if_pos e])
  · refine T_auto TT_ok rfl ?_
    exact T_ansI TT_ok [(4, none)] rfl rfl (by rw [szI, if_neg e])
theorem eqSetS_q (xs : List GSet) (hl : xs.length ≤ 1048576) : Ans Tryz.prog 155 [] [vL 5 cSet GSet.z xs, vL 5 cSet GSet.z xs] [] (vB true) := by
  refine con_enter Tryz.func155 rfl rfl rfl fun B0 r_ D_ w0 => ?_
  refine T_auto TT_ok rfl ?_
  refine T_condN rfl (fun e => absurd rfl e) (fun _ => ?_)
  refine T_auto TT_ok rfl ?_
  refine T_loopA (ι := Nat) (fun i => [(5, vI i)]) (fun _ => []) (fun i => i ≤ xs.length) (fun i => xs.length - i) 0 [] [] rfl rfl (Nat.zero_le _) (by repeat (first | exact trivial | refine And.intro ⟨_, rfl, SV.imp_refl _⟩ ?_)) (by repeat (first | exact trivial | refine And.intro ⟨_, rfl, Ch.imp_refl _⟩ ?_)) ?_
  intro i h1
  refine T_auto TT_ok rfl ?_
  refine T_condD rfl (fun e => ?_) (fun e => ?_)
  · have hi : i < xs.length := by omega
    refine T_auto TT_ok rfl ?_
    refine T_drawA TT_ok [] rfl rfl fun B0 H0 => ?_
    refine DJ_Q TT_ok (eqSet_q _) rfl rfl rfl rfl rfl rfl ?_
    refine DJ_endA TT_ok rfl ?_
    refine T_cond rfl (fun e => by cases e) (fun _ => ?_)
    refine T_auto TT_ok rfl ?_
    exact X_inv (i + 1) hi (by omega) (by repeat (first | exact trivial | refine And.intro ⟨_, rfl, SV.imp_refl _⟩ ?_)) (by repeat (first | exact trivial | refine And.intro ⟨_, rfl, Ch.imp_refl _⟩ ?_))
  · refine T_auto TT_ok rfl ?_
    exact T_ansB TT_ok [(4, none)] rfl rfl (rfl)
def mkSet (k : Int) : GSet := ⟨k, k + 1, k + 1 + 1, (k + 1 + 1 + 1).tmod 3 == 0, k + 1 + 1 + 1 + 1⟩
theorem markSetS_c (xs : List GSet) (hl : xs.length ≤ 1048576) (k0 : Int) (h1 : 0 ≤ k0) (h2 : k0 ≤ 1099511627776) : Con Tryz.prog 108 [900] [.a (.g 900), vI k0] [(900, arrC 5 cSet GSet.z xs)] (fun _ : Unit => True) (fun _ => [vI (k0 + 5 * xs.length)]) fun _ => [(900, .arr 5 xs.length fun j => cSet (mkSet (k0 + 5 * j)))] := by
  refine con_enter Tryz.func108 rfl rfl rfl fun B0 r_ D_ w0 => ?_
  refine T_auto TT_ok rfl ?_
  refine T_loopA (ι := Nat) (fun i => [(5, vI i), (1, vI (k0 + 5 * i))]) (fun i => [(900, .arr 5 xs.length fun j => cSet (if j < i then mkSet (k0 + 5 * j) else xs.getD j GSet.z))]) (fun i => i ≤ xs.length) (fun i => xs.length - i) 0 [900] [] rfl rfl (Nat.zero_le _) ⟨⟨_, rfl, SV.imp_refl _⟩, ⟨_, rfl, SV.imp_of (vI_eq (by simp))⟩, trivial⟩ ⟨⟨_, rfl, Ch.imp_arr fun k hk => by rw [if_neg (Nat.not_lt_zero _)]⟩, trivial⟩ ?_
  intro i h3
  refine T_auto TT_ok rfl ?_
  refine T_condD rfl (fun e => ?_) (fun e => ?_)
  · have hi : i < xs.length := by omega
    refine T_view (V_carve 900 i 7000 rfl rfl rfl rfl rfl rfl ⟨by omega, by omega⟩) ?_
    refine T_auto TT_ok rfl ?_
    refine RJ_view (V_pe 16 rfl rfl rfl) ?_
    refine RJ_auto TT_ok rfl ?_
    refine RJ_view (V_pe 23 rfl rfl rfl) ?_
    refine RJ_auto TT_ok rfl ?_
    refine RJ_view (V_pe 30 rfl rfl rfl) ?_
    refine RJ_auto TT_ok rfl ?_
    refine RJ_view (V_pe 39 rfl rfl rfl) ?_
    refine RJ_auto TT_ok rfl ?_
    refine RJ_view (V_pe 46 rfl rfl rfl) ?_
    refine RJ_auto TT_ok rfl ?_
    refine X_view (V_uncarve 900 7000 rfl rfl rfl rfl rfl rfl rfl) ?_
    exact X_inv (i + 1) hi (by omega) ⟨⟨_, rfl, SV.imp_refl _⟩, ⟨_, rfl, SV.imp_of (vI_eq (by omega))⟩, (by repeat (first | exact trivial | refine And.intro ⟨_, rfl, SV.imp_refl _⟩ ?_))⟩ ⟨⟨_, rfl, Ch.imp_arr fun k hk => fill_step2 (i := i) (k := k) (fun x => cSet x) (fun j => mkSet (k0 + 5 * (j : Nat))) (o := fun j => xs.getD j GSet.z) (by rfl)⟩, (by repeat (first | exact trivial | refine And.intro ⟨_, rfl, Ch.imp_refl _⟩ ?_))⟩
  · have hi : i = xs.length := by omega
    subst hi
    refine T_auto TT_ok rfl ?_
    refine T_ret TT_ok (()) [(4, none)] rfl rfl ?_ ?_ ?_
    · exact SVs.imp_refl _
    · exact ⟨⟨_, rfl, Ch.imp_arr fun k hk => by rw [if_pos hk]⟩, trivial⟩
    · trivial
theorem toNote_q (a : GNote) : Ans Tryz.prog 176 [] [vR (cNote a)] [] (vR (cNote a)) := by
  refine con_enter Tryz.func176 rfl rfl rfl fun B0 r_ D_ w0 => ?_
  refine T_auto TT_ok rfl ?_
  exact T_ans TT_ok [(2, some 104)] rfl rfl (rfl)
theorem eqNote_q (a : GNote) : Ans Tryz.prog 191 [] [vR (cNote a), vR (cNote a)] [] (vB true) := by
  refine con_enter Tryz.func191 rfl rfl rfl fun B0 r_ D_ w0 => ?_
  refine T_auto TT_ok rfl ?_
  refine T_condN rfl (fun e => absurd rfl e) (fun _ => ?_)
  refine T_auto TT_ok rfl ?_
  refine T_condN rfl (fun e => absurd rfl e) (fun _ => ?_)
  refine T_auto TT_ok rfl ?_
  refine T_condN rfl (fun e => absurd rfl e) (fun _ => ?_)
  refine T_auto TT_ok rfl ?_
  refine T_condN rfl (fun e => absurd rfl e) (fun _ => ?_)
  refine T_auto TT_ok rfl ?_
  refine T_condX rfl (fun e => by simp at e) (fun _ => ?_)
  refine T_auto TT_ok rfl ?_
  exact T_ansB TT_ok [(4, none)] rfl rfl (rfl)
theorem toNoteS_m (xs : List GNote) (hl : xs.length ≤ 1048576) : MkL Tryz.prog 134 [vL 5 cNote GNote.z xs] 5 cNote GNote.z xs := by
  refine con_enter Tryz.func134 rfl rfl rfl fun B0 r_ D_ w0 => ?_
  refine T_auto TT_ok rfl ?_
  refine RJ_make TT_ok 7 xs.length rfl rfl rfl rfl rfl rfl rfl ⟨by simp; omega, by unfold maxL; omega⟩ ?_
  refine RJ_auto TT_ok rfl ?_
  refine T_loopA (ι := Nat) (fun i => [(4, vI i)]) (fun i => [(7, .arr 5 xs.length fun k => cNote (if k < i then xs.getD k GNote.z else GNote.z))]) (fun i => i ≤ xs.length) (fun i => xs.length - i) 0 [7] [] rfl rfl (Nat.zero_le _) (by repeat (first | exact trivial | refine And.intro ⟨_, rfl, SV.imp_refl _⟩ ?_)) ⟨⟨_, rfl, Ch.imp_arr fun k hk => by rw [if_neg (Nat.not_lt_zero _)]; rfl⟩, trivial⟩ ?_
  intro i h1
  refine T_auto TT_ok rfl ?_
  refine T_condD rfl (fun e => ?_) (fun e => ?_)
  · have hi : i < xs.length := by omega
    refine T_auto TT_ok rfl ?_
    refine RJ_Q TT_ok (toNote_q _) rfl rfl rfl rfl rfl ?_
    exact X_inv (i + 1) hi (by omega) (by repeat (first | exact trivial | refine And.intro ⟨_, rfl, SV.imp_refl _⟩ ?_)) ⟨⟨_, rfl, Ch.imp_arr fun k hk => fill_step (fun x => cNote x) rfl⟩, (by repeat (first | exact trivial | refine And.intro ⟨_, rfl, Ch.imp_refl _⟩ ?_))⟩
  · have hi : i = xs.length := by omega
    subst hi
    refine T_auto TT_ok rfl ?_
    refine T_view (V_sw 7 900) ?_
    refine T_ret TT_ok (()) [(2, none)] rfl rfl ?_ ?_ ?_
    · exact SVs.imp_refl _
    · exact ⟨⟨_, rfl, Ch.imp_arr fun k hk => by rw [if_pos hk]⟩, trivial⟩
    · trivial
theorem szNoteS_q (xs : List GNote) (hx : xs.length ≤ maxL) (l : Int) (h1 : 0 ≤ l) (h2 : l ≤ 1048576) : Ans Tryz.prog 128 [] [vL 5 cNote GNote.z xs, vI l] [] (vI (szI l xs.length)) := by
  unfold maxL at hx
  refine con_enter Tryz.func128 rfl rfl rfl fun B0 r_ D_ w0 => ?_
  refine T_auto TT_ok rfl ?_
  refine T_condD rfl (fun e => ?_) (fun e => ?_)
  · refine T_auto TT_ok rfl ?_
    exact T_ansI TT_ok [(4, none)] rfl rfl (by rw [szI, if_pos e])
  · refine T_auto TT_ok rfl ?_
    exact T_ansI TT_ok [(4, none)] rfl rfl (by rw [szI, if_neg e])
theorem eqNoteS_q (xs : List GNote) (hl : xs.length ≤ 1048576) : Ans Tryz.prog 154 [] [vL 5 cNote GNote.z xs, vL 5 cNote GNote.z xs] [] (vB true) := by
  refine con_enter Tryz.func154 rfl rfl rfl fun B0 r_ D_ w0 => ?_
  refine T_auto TT_ok rfl ?_
  refine T_condN rfl (fun e => absurd rfl e) (fun _ => ?_)
  refine T_auto TT_ok rfl ?_
  refine T_loopA (ι := Nat) (fun i => [(5, vI i)]) (fun _ => []) (fun i => i ≤ xs.length) (fun i => xs.length - i) 0 [] [] rfl rfl (Nat.zero_le _) (by repeat (first | exact trivial | refine And.intro ⟨_, rfl, SV.imp_refl _⟩ ?_)) (by repeat (first | exact trivial | refine And.intro ⟨_, rfl, Ch.imp_refl _⟩ ?_)) ?_
  intro i h1
  refine T_auto TT_ok rfl ?_
  refine T_condD rfl (fun e => ?_) (fun e => ?_)
  · have hi : i < xs.length := by omega
    refine T_auto TT_ok rfl ?_
    refine T_drawA TT_ok [] rfl rfl fun B0 H0 => ?_
    refine DJ_Q TT_ok (eqNote_q _) rfl rfl rfl rfl rfl rfl ?_
    refine DJ_endA TT_ok rfl ?_
    refine T_cond rfl (fun e => by cases e) (fun _ => ?_)
    refine T_auto TT_ok rfl ?_
    exact X_inv (i + 1) hi (by omega) (by repeat (first | exact trivial | refine And.intro ⟨_, rfl, SV.imp_refl _⟩ ?_)) (by repeat (first | exact trivial | refine And.intro ⟨_, rfl, Ch.imp_refl _⟩ ?_))
  · refine T_auto TT_ok rfl ?_
    exact T_ansB TT_ok [(4, none)] rfl rfl (rfl)
def mkNote (k : Int) : GNote := ⟨k, k + 1, k + 1 + 1, k + 1 + 1 + 1, (k + 1 + 1 + 1 + 1).tmod 3 == 0⟩
theorem markNoteS_c (xs : List GNote) (hl : xs.length ≤ 1048576) (k0 : Int) (h1 : 0 ≤ k0) (h2 : k0 ≤ 1099511627776) : Con Tryz.prog 107 [900] [.a (.g 900), vI k0] [(900, arrC 5 cNote GNote.z xs)] (fun _ : Unit => True) (fun _ => [vI (k0 + 5 * xs.length)]) fun _ => [(900, .arr 5 xs.length fun j => cNote (mkNote (k0 + 5 * j)))] := by
  refine con_enter Tryz.func107 rfl rfl rfl fun B0 r_ D_ w0 => ?_
  refine T_auto TT_ok rfl ?_
  refine T_loopA (ι := Nat) (fun i => [(5, vI i), (1, vI (k0 + 5 * i))]) (fun i => [(900, .arr 5 xs.length fun j => cNote (if j < i then mkNote (k0 + 5 * j) else xs.getD j GNote.z))]) (fun i => i ≤ xs.length) (fun i => xs.length - i) 0 [900] [] rfl rfl (Nat.zero_le _) ⟨⟨_, rfl, SV.imp_refl _⟩, ⟨_, rfl, SV.imp_of (vI_eq (by simp))⟩, trivial⟩ ⟨⟨_, rfl, Ch.imp_arr fun k hk => by rw [if_neg (Nat.not_lt_zero _)]⟩, trivial⟩ ?_
  intro i h3
  refine T_auto TT_ok rfl ?_
  refine T_condD rfl (fun e => ?_) (fun e => ?_)
  · have hi : i < xs.length := by omega
    refine T_view (V_carve 900 i 7000 rfl rfl rfl rfl rfl rfl ⟨by omega, by omega⟩) ?_
    refine T_auto TT_ok rfl ?_
    refine RJ_view (V_pe 16 rfl rfl rfl) ?_
    refine RJ_auto TT_ok rfl ?_
    refine RJ_view (V_pe 23 rfl rfl rfl) ?_
    refine RJ_auto TT_ok rfl ?_
    refine RJ_view (V_pe 30 rfl rfl rfl) ?_
    refine RJ_auto TT_ok rfl ?_
    refine RJ_view (V_pe 37 rfl rfl rfl) ?_
    refine RJ_auto TT_ok rfl ?_
    refine RJ_view (V_pe 46 rfl rfl rfl) ?_
    refine RJ_auto TT_ok rfl ?_
    refine X_view (V_uncarve 900 7000 rfl rfl rfl rfl rfl rfl rfl) ?_
    exact X_inv (i + 1) hi (by omega) ⟨⟨_, rfl, SV.imp_refl _⟩, ⟨_, rfl, SV.imp_of (vI_eq (by omega))⟩, (by repeat (first | exact trivial | refine And.intro ⟨_, rfl, SV.imp_refl _⟩ ?_))⟩ ⟨⟨_, rfl, Ch.imp_arr fun k hk => fill_step2 (i := i) (k := k) (fun x => cNote x) (fun j => mkNote (k0 + 5 * (j : Nat))) (o := fun j => xs.getD j GNote.z) (by rfl)⟩, (by repeat (first | exact trivial | refine And.intro ⟨_, rfl, Ch.imp_refl _⟩ ?_))⟩
  · have hi : i = xs.length := by omega
    subst hi
    refine T_auto TT_ok rfl ?_
    refine T_ret TT_ok (()) [(4, none)] rfl rfl ?_ ?_ ?_
    · exact SVs.imp_refl _
    · exact ⟨⟨_, rfl, Ch.imp_arr fun k hk => by rw [if_pos hk]⟩, trivial⟩
    · trivial
theorem toCell_q (a : GCell) : Ans Tryz.prog 219 [] [vR (cCell a)] [] (vR (cCell a)) := by
  refine con_enter Tryz.func219 rfl rfl rfl fun B0 r_ D_ w0 => ?_
  refine T_auto TT_ok rfl ?_
  exact T_ans TT_ok [(2, some 88)] rfl rfl (rfl)
theorem eqCell_q (a : GCell) : Ans Tryz.prog 60 [] [vR (cCell a), vR (cCell a)] [] (vB true) := by
  refine con_enter Tryz.func60 rfl rfl rfl fun B0 r_ D_ w0 => ?_
  refine T_auto TT_ok rfl ?_
  refine T_condN rfl (fun e => absurd rfl e) (fun _ => ?_)
  refine T_auto TT_ok rfl ?_
  refine T_condN rfl (fun e => absurd rfl e) (fun _ => ?_)
  refine T_auto TT_ok rfl ?_
  exact T_ansB TT_ok [(4, none)] rfl rfl (rfl)
theorem toCellS_m (xs : List GCell) (hl : xs.length ≤ 1048576) : MkL Tryz.prog 204 [vL 2 cCell GCell.z xs] 2 cCell GCell.z xs := by
  refine con_enter Tryz.func204 rfl rfl rfl fun B0 r_ D_ w0 => ?_
  refine T_auto TT_ok rfl ?_
  refine RJ_make TT_ok 7 xs.length rfl rfl rfl rfl rfl rfl rfl ⟨by simp; omega, by unfold maxL; omega⟩ ?_
  refine RJ_auto TT_ok rfl ?_
  refine T_loopA (ι := Nat) (fun i => [(4, vI i)]) (fun i => [(7, .arr 2 xs.length fun k => cCell (if k < i then xs.getD k GCell.z else GCell.z))]) (fun i => i ≤ xs.length) (fun i => xs.length - i) 0 [7] [] rfl rfl (Nat.zero_le _) (by repeat (first | exact trivial | refine And.intro ⟨_, rfl, SV.imp_refl _⟩ ?_)) ⟨⟨_, rfl, Ch.imp_arr fun k hk => by rw [if_neg (Nat.not_lt_zero _)]; rfl⟩, trivial⟩ ?_
  intro i h1
  refine T_auto TT_ok rfl ?_
  refine T_condD rfl (fun e => ?_) (fun e => ?_)
  · have hi : i < xs.length := by omega
    refine T_auto TT_ok rfl ?_
    refine RJ_Q TT_ok (toCell_q _) rfl rfl rfl rfl rfl ?_
    exact X_inv (i + 1) hi (by omega) (by repeat (first | exact trivial | refine And.intro ⟨_, rfl, SV.imp_refl _⟩ ?_)) ⟨⟨_, rfl, Ch.imp_arr fun k hk => fill_step (fun x => cCell x) rfl⟩, (by repeat (first | exact trivial | refine And.intro ⟨_, rfl, Ch.imp_refl _⟩ ?_))⟩
  · have hi : i = xs.length := by omega
    subst hi
    refine T_auto TT_ok rfl ?_
    refine T_view (V_sw 7 900) ?_
    refine T_ret TT_ok (()) [(2, none)] rfl rfl ?_ ?_ ?_
    · exact SVs.imp_refl _
    · exact ⟨⟨_, rfl, Ch.imp_arr fun k hk => by rw [if_pos hk]⟩, trivial⟩
    · trivial
theorem szCellS_q (xs : List GCell) (hx : xs.length ≤ maxL) (l : Int) (h1 : 0 ≤ l) (h2 : l ≤ 1048576) : Ans Tryz.prog 203 [] [vL 2 cCell GCell.z xs, vI l] [] (vI (szI l xs.length)) := by
  unfold maxL at hx
  refine con_enter Tryz.func203 rfl rfl rfl fun B0 r_ D_ w0 => ?_
  refine T_auto TT_ok rfl ?_
  refine T_condD rfl (fun e => ?_) (fun e => ?_)
  · refine T_auto TT_ok rfl ?_
    exact T_ansI TT_ok [(4, none)] rfl rfl (by rw [szI, if_pos e])
  · refine T_auto TT_ok rfl ?_
    exact T_ansI TT_ok [(4, none)] rfl rfl (by rw [szI, if_neg e])
theorem eqCellS_q (xs : List GCell) (hl : xs.length ≤ 1048576) : Ans Tryz.prog 23 [] [vL 2 cCell GCell.z xs, vL 2 cCell GCell.z xs] [] (vB true) := by
  refine con_enter Tryz.func23 rfl rfl rfl fun B0 r_ D_ w0 => ?_
  refine T_auto TT_ok rfl ?_
  refine T_condN rfl (fun e => absurd rfl e) (fun _ => ?_)
  refine T_auto TT_ok rfl ?_
  refine T_loopA (ι := Nat) (fun i => [(5, vI i)]) (fun _ => []) (fun i => i ≤ xs.length) (fun i => xs.length - i) 0 [] [] rfl rfl (Nat.zero_le _) (by repeat (first | exact trivial | refine And.intro ⟨_, rfl, SV.imp_refl _⟩ ?_)) (by repeat (first | exact trivial | refine And.intro ⟨_, rfl, Ch.imp_refl _⟩ ?_)) ?_
  intro i h1
  refine T_auto TT_ok rfl ?_
  refine T_condD rfl (fun e => ?_) (fun e => ?_)
  · have hi : i < xs.length := by omega
    refine T_auto TT_ok rfl ?_
    refine T_drawA TT_ok [] rfl rfl fun B0 H0 => ?_
    refine DJ_Q TT_ok (eqCell_q _) rfl rfl rfl rfl rfl rfl ?_
    refine DJ_endA TT_ok rfl ?_
    refine T_cond rfl (fun e => by cases e) (fun _ => ?_)
    refine T_auto TT_ok rfl ?_
    exact X_inv (i + 1) hi (by omega) (by repeat (first | exact trivial | refine And.intro ⟨_, rfl, SV.imp_refl _⟩ ?_)) (by repeat (first | exact trivial | refine And.intro ⟨_, rfl, Ch.imp_refl _⟩ ?_))
  · refine T_auto TT_ok rfl ?_
    exact T_ansB TT_ok [(4, none)] rfl rfl (rfl)
def mkCell (k : Int) : GCell := ⟨k, k + 1⟩
theorem markCellS_c (xs : List GCell) (hl : xs.length ≤ 1048576) (k0 : Int) (h1 : 0 ≤ k0) (h2 : k0 ≤ 1099511627776) : Con Tryz.prog 24 [900] [.a (.g 900), vI k0] [(900, arrC 2 cCell GCell.z xs)] (fun _ : Unit => True) (fun _ => [vI (k0 + 2 * xs.length)]) fun _ => [(900, .arr 2 xs.length fun j => cCell (mkCell (k0 + 2 * j)))] := by
  refine con_enter Tryz.func24 rfl rfl rfl fun B0 r_ D_ w0 => ?_
  refine T_auto TT_ok rfl ?_
  refine T_loopA (ι := Nat) (fun i => [(5, vI i), (1, vI (k0 + 2 * i))]) (fun i => [(900, .arr 2 xs.length fun j => cCell (if j < i then mkCell (k0 + 2 * j) else xs.getD j GCell.z))]) (fun i => i ≤ xs.length) (fun i => xs.length - i) 0 [900] [] rfl rfl (Nat.zero_le _) ⟨⟨_, rfl, SV.imp_refl _⟩, ⟨_, rfl, SV.imp_of (vI_eq (by simp))⟩, trivial⟩ ⟨⟨_, rfl, Ch.imp_arr fun k hk => by rw [if_neg (Nat.not_lt_zero _)]⟩, trivial⟩ ?_
  intro i h3
  refine T_auto TT_ok rfl ?_
  refine T_condD rfl (fun e => ?_) (fun e => ?_)
  · have hi : i < xs.length := by omega
    refine T_view (V_carve 900 i 7000 rfl rfl rfl rfl rfl rfl ⟨by omega, by omega⟩) ?_
    refine T_auto TT_ok rfl ?_
    refine RJ_view (V_pe 16 rfl rfl rfl) ?_
    refine RJ_auto TT_ok rfl ?_
    refine RJ_view (V_pe 23 rfl rfl rfl) ?_
    refine RJ_auto TT_ok rfl ?_
    refine X_view (V_uncarve 900 7000 rfl rfl rfl rfl rfl rfl rfl) ?_
    exact X_inv (i + 1) hi (by omega) ⟨⟨_, rfl, SV.imp_refl _⟩, ⟨_, rfl, SV.imp_of (vI_eq (by omega))⟩, (by repeat (first | exact trivial | refine And.intro ⟨_, rfl, SV.imp_refl _⟩ ?_))⟩ ⟨⟨_, rfl, Ch.imp_arr fun k hk => fill_step2 (i := i) (k := k) (fun x => cCell x) (fun j => mkCell (k0 + 2 * (j : Nat))) (o := fun j => xs.getD j GCell.z) (by rfl)⟩, (by repeat (first | exact trivial | refine And.intro ⟨_, rfl, Ch.imp_refl _⟩ ?_))⟩
  · have hi : i = xs.length := by omega
    subst hi
    refine T_auto TT_ok rfl ?_
    refine T_ret TT_ok (()) [(4, none)] rfl rfl ?_ ?_ ?_
    · exact SVs.imp_refl _
    · exact ⟨⟨_, rfl, Ch.imp_arr fun k hk => by rw [if_pos hk]⟩, trivial⟩
    · trivial
theorem heldCellS_q (n : Nat) (hl : n ≤ 1048576) (k0 : Int) (h1 : 0 ≤ k0) (h2 : k0 ≤ 1099511627776) : Ans Tryz.prog 25 [] [.a (.s .r 2 n fun j => cCell (mkCell (k0 + 2 * j))), vI k0] [] (vI (k0 + 2 * n)) := by
  refine con_enter Tryz.func25 rfl rfl rfl fun B0 r_ D_ w0 => ?_
  refine T_auto TT_ok rfl ?_
  refine T_loopA (ι := Nat) (fun i => [(5, vI i), (1, vI (k0 + 2 * i))]) (fun _ => []) (fun i => i ≤ n) (fun i => n - i) 0 [] [] rfl rfl (Nat.zero_le _) ⟨⟨_, rfl, SV.imp_refl _⟩, ⟨_, rfl, SV.imp_of (vI_eq (by simp))⟩, trivial⟩ (by repeat (first | exact trivial | refine And.intro ⟨_, rfl, Ch.imp_refl _⟩ ?_)) ?_
  intro i h3
  refine T_auto TT_ok rfl ?_
  refine T_condD rfl (fun e => ?_) (fun e => ?_)
  · have hi : i < n := by omega
    refine T_auto TT_ok rfl ?_
    refine T_condN rfl (fun e => absurd rfl e) (fun _ => ?_)
    refine T_auto TT_ok rfl ?_
    refine T_condN rfl (fun e => absurd rfl e) (fun _ => ?_)
    refine T_auto TT_ok rfl ?_
    exact X_inv (i + 1) hi (by omega) ⟨⟨_, rfl, SV.imp_refl _⟩, ⟨_, rfl, SV.imp_of (vI_eq (by omega))⟩, (by repeat (first | exact trivial | refine And.intro ⟨_, rfl, SV.imp_refl _⟩ ?_))⟩ (by repeat (first | exact trivial | refine And.intro ⟨_, rfl, Ch.imp_refl _⟩ ?_))
  · have hi : i = n := by omega
    subst hi
    refine T_auto TT_ok rfl ?_
    exact T_ansI TT_ok [(4, none)] rfl rfl (rfl)
end
section
set_option maxRecDepth 4000
end
end Go.Proofs.YthpjoddhlkcciaaGreat
namespace Go.Proofs.YthpjoddhlkcciaaGreat
open Go Go.RowKit
set_option linter.unusedVariables false
set_option linter.unusedSimpArgs false
section
set_option maxRecDepth 4000
def cmI (xs : List Int) : Nat → List Int
  | 0 => []
  | i + 1 => if i = 0 ∨ xs.getD i 0 ≠ xs.getD (i - 1) 0 then cmI xs i ++ [xs.getD i 0] else cmI xs i
end
section
set_option maxRecDepth 4000
theorem mem_getD {xs : List Int} {i : Nat} (h : i < xs.length) : xs.getD i 0 ∈ xs := by simp [h]
theorem mem_iff_getD {xs : List Int} {n : Int} : n ∈ xs ↔ ∃ i, i < xs.length ∧ xs.getD i 0 = n := by
  rw [List.mem_iff_getElem]
  constructor
  · rintro ⟨i, h, e⟩; exact ⟨i, h, by simp [h, e]⟩
  · rintro ⟨i, h, e⟩; exact ⟨i, h, by simpa [h] using e⟩
theorem l3Has_q (xs : List Int) (hl : xs.length ≤ 1048576) (n : Int) : Ans Tryz.prog 117 [] [vL 1 cInt 0 xs, vI n] [] (vB (decide (n ∈ xs))) := by
  refine con_enter Tryz.func117 rfl rfl rfl fun B0 r_ D_ w0 => ?_
  refine T_auto TT_ok rfl ?_
  refine T_loopA (ι := Nat) (fun i => [(5, vI i)]) (fun _ => []) (fun i => i ≤ xs.length ∧ ∀ j, j < i → xs.getD j 0 ≠ n) (fun i => xs.length - i) 0 [] [] rfl rfl ⟨Nat.zero_le _, fun j hj => absurd hj (Nat.not_lt_zero _)⟩ (by repeat (first | exact trivial | refine And.intro ⟨_, rfl, SV.imp_refl _⟩ ?_)) (by repeat (first | exact trivial | refine And.intro ⟨_, rfl, Ch.imp_refl _⟩ ?_)) ?_
  intro i ⟨h1, h2⟩
  refine T_auto TT_ok rfl ?_
  refine T_condD rfl (fun e => ?_) (fun e => ?_)
  · have hi : i < xs.length := by omega
    refine T_auto TT_ok rfl ?_
    refine T_condE rfl (fun e2 => ?_) (fun e2 => ?_)
    · refine T_auto TT_ok rfl ?_
      exact T_ansB TT_ok [(4, none)] rfl rfl ((decide_eq_true (mem_iff_getD.2 ⟨i, hi, e2⟩)).symm)
    · refine T_auto TT_ok rfl ?_
      exact X_inv (i + 1) ⟨hi, before_succ h2 e2⟩ (by omega) (by repeat (first | exact trivial | refine And.intro ⟨_, rfl, SV.imp_refl _⟩ ?_)) (by repeat (first | exact trivial | refine And.intro ⟨_, rfl, Ch.imp_refl _⟩ ?_))
  · refine T_auto TT_ok rfl ?_
    exact T_ansB TT_ok [(4, none)] rfl rfl ((decide_eq_false fun h => by obtain ⟨j, j1, j2⟩ := mem_iff_getD.1 h; exact h2 j (by omega) j2).symm)
abbrev regsOf (t : GTx) : List Int := t.sets.map GSet.region
theorem eqInt64S_q (xs : List Int) (hl : xs.length ≤ 1048576) : Ans Tryz.prog 15 [] [vL 1 cInt 0 xs, vL 1 cInt 0 xs] [] (vB true) := by
  refine con_enter Tryz.func15 rfl rfl rfl fun B0 r_ D_ w0 => ?_
  refine T_auto TT_ok rfl ?_
  refine T_condN rfl (fun e => absurd rfl e) (fun _ => ?_)
  refine T_auto TT_ok rfl ?_
  refine T_loopA (ι := Nat) (fun i => [(5, vI i)]) (fun _ => []) (fun i => i ≤ xs.length) (fun i => xs.length - i) 0 [] [] rfl rfl (Nat.zero_le _) (by repeat (first | exact trivial | refine And.intro ⟨_, rfl, SV.imp_refl _⟩ ?_)) (by repeat (first | exact trivial | refine And.intro ⟨_, rfl, Ch.imp_refl _⟩ ?_)) ?_
  intro i h1
  refine T_auto TT_ok rfl ?_
  refine T_condD rfl (fun e => ?_) (fun e => ?_)
  · have hi : i < xs.length := by omega
    refine T_auto TT_ok rfl ?_
    refine T_drawA TT_ok [] rfl rfl fun B0 H0 => ?_
    refine DJ_endA TT_ok rfl ?_
    refine T_condN rfl (fun e => absurd rfl e) (fun _ => ?_)
    refine T_auto TT_ok rfl ?_
    exact X_inv (i + 1) hi (by omega) (by repeat (first | exact trivial | refine And.intro ⟨_, rfl, SV.imp_refl _⟩ ?_)) (by repeat (first | exact trivial | refine And.intro ⟨_, rfl, Ch.imp_refl _⟩ ?_))
  · refine T_auto TT_ok rfl ?_
    exact T_ansB TT_ok [(4, none)] rfl rfl (rfl)
theorem markInt64S_c (xs : List Int) (hl : xs.length ≤ 1048576) (k0 : Int) (h1 : 0 ≤ k0) (h2 : k0 ≤ 1099511627776) : Con Tryz.prog 17 [900] [.a (.g 900), vI k0] [(900, arrC 1 cInt 0 xs)] (fun _ : Unit => True) (fun _ => [vI (k0 + 1 * xs.length)]) fun _ => [(900, .arr 1 xs.length fun j => cInt (k0 + 1 * j))] := by
  refine con_enter Tryz.func17 rfl rfl rfl fun B0 r_ D_ w0 => ?_
  refine T_auto TT_ok rfl ?_
  refine T_loopA (ι := Nat) (fun i => [(5, vI i), (1, vI (k0 + 1 * i))]) (fun i => [(900, .arr 1 xs.length fun j => cInt (if j < i then k0 + 1 * (j : Nat) else xs.getD j 0))]) (fun i => i ≤ xs.length) (fun i => xs.length - i) 0 [900] [] rfl rfl (Nat.zero_le _) ⟨⟨_, rfl, SV.imp_refl _⟩, ⟨_, rfl, SV.imp_of (vI_eq (by simp))⟩, trivial⟩ ⟨⟨_, rfl, Ch.imp_arr fun k hk => by rw [if_neg (Nat.not_lt_zero _)]⟩, trivial⟩ ?_
  intro i h3
  refine T_auto TT_ok rfl ?_
  refine T_condD rfl (fun e => ?_) (fun e => ?_)
  · have hi : i < xs.length := by omega
    refine T_auto TT_ok rfl ?_
    exact X_inv (i + 1) hi (by omega) ⟨⟨_, rfl, SV.imp_refl _⟩, ⟨_, rfl, SV.imp_of (vI_eq (by omega))⟩, (by repeat (first | exact trivial | refine And.intro ⟨_, rfl, SV.imp_refl _⟩ ?_))⟩ ⟨⟨_, rfl, Ch.imp_arr fun k hk => fill_step2 (i := i) (k := k) (fun x => cInt x) (fun j => k0 + 1 * (j : Nat)) (o := fun j => xs.getD j 0) (by rfl)⟩, (by repeat (first | exact trivial | refine And.intro ⟨_, rfl, Ch.imp_refl _⟩ ?_))⟩
  · have hi : i = xs.length := by omega
    subst hi
    refine T_auto TT_ok rfl ?_
    refine T_ret TT_ok (()) [(4, none)] rfl rfl ?_ ?_ ?_
    · exact SVs.imp_refl _
    · exact ⟨⟨_, rfl, Ch.imp_arr fun k hk => by rw [if_pos hk]⟩, trivial⟩
    · trivial
end
end Go.Proofs.YthpjoddhlkcciaaGreat
namespace Go.Proofs.YthpjoddhlkcciaaGreat
open Go Go.RowKit
set_option linter.unusedVariables false
set_option linter.unusedSimpArgs false
set_option maxRecDepth 4000
structure GPlace where
  machines : List Int
def GPlace.z : GPlace := ⟨[]⟩
structure GRecord where
  kind : Int
  tx : Int
  region : Int
  sets : List GSet
def GRecord.z : GRecord := ⟨0, 0, 0, []⟩
structure GCopy where
  region : Int
  cells : List GCell
def GCopy.z : GCopy := ⟨0, []⟩
structure GMachine where
  alive : Bool
  copies : List GCopy
  log : List GRecord
  cleared : List Int
def GMachine.z : GMachine := ⟨false, [], [], []⟩
structure GCluster where
  config : Int
  clock : Int
  places : List GPlace
  machines : List GMachine
  txs : List GTx
  lost : Bool
def GCluster.z : GCluster := ⟨0, 0, [], [], [], false⟩
def cPlace (p : GPlace) : List D := [dL 1 cInt 0 p.machines]
def cRecord (r : GRecord) : List D := [dI r.kind, dI r.tx, dI r.region, dL 5 cSet GSet.z r.sets]
def cCopy (c : GCopy) : List D := [dI c.region, dL 2 cCell GCell.z c.cells]
def cMachine (m : GMachine) : List D := [dB m.alive, dL 2 cCopy GCopy.z m.copies, dL 4 cRecord GRecord.z m.log, dL 1 cInt 0 m.cleared]
def cCluster (c : GCluster) : List D := [dI c.config, dI c.clock, dL 1 cPlace GPlace.z c.places, dL 4 cMachine GMachine.z c.machines, dL 7 cTx GTx.z c.txs, dB c.lost]
mutual
def D.bd (N : Nat) : D → Prop
  | .v _ => True
  | .sl _ n f => n ≤ N ∧ ∀ i, i < n → D.bds N (f i)
  | .pt l _ => D.bds N l
def D.bds (N : Nat) : List D → Prop
  | [] => True
  | x :: r => D.bd N x ∧ D.bds N r
end
mutual
theorem D.rd_bd {h : PH} : ∀ (x : D) {y : Value}, D.rd h x y → D.bd maxL x
  | .v _, _, _ => trivial
  | .sl sz n f, y, e => by
    obtain ⟨A, c, e1, e2, e3, e4⟩ := e
    refine ⟨e3, fun i hi => ?_⟩
    rcases e4 with e4 | ⟨b, o, _, e6⟩
    · omega
    · obtain ⟨row, r1, _⟩ := e6 i hi
      exact D.rds_bd (f i) r1
  | .pt l o, y, e => by
    obtain ⟨b, x, vs, e1, e2, e3⟩ := e
    exact D.rds_bd l e2
theorem D.rds_bd {h : PH} : ∀ (x : List D) {y : List Value}, D.rds h x y → D.bds maxL x
  | [], _, _ => trivial
  | x :: r, y, e => by
    obtain ⟨a, t, e1, e2, e3⟩ := e
    exact ⟨D.rd_bd x e2, D.rds_bd r e3⟩
end
def sumW {α : Type} (w : α → Nat) : List α → Nat
  | [] => 0
  | x :: r => w x + sumW w r
section
variable {α : Type} {w : α → Nat} {z : α}
theorem sumW_append : ∀ (l m : List α), sumW w (l ++ m) = sumW w l + sumW w m
  | [], m => by simp [sumW]
  | x :: r, m => by simp [sumW, sumW_append r m]; omega
theorem sumW_take {xs : List α} {i : Nat} (h : i < xs.length) : sumW w (xs.take (i + 1)) = sumW w (xs.take i) + w (xs.getD i z) := by
  rw [take_succ_getD (z := z) h, sumW_append]; simp [sumW]
theorem sumW_take_le (xs : List α) (i : Nat) : sumW w (xs.take i) ≤ sumW w xs := by
  conv => rhs; rw [← List.take_append_drop i xs]
  rw [sumW_append]; omega
theorem sumW_get {xs : List α} {i : Nat} (h : i < xs.length) : w (xs.getD i z) ≤ sumW w xs := by
  have h1 := sumW_take (w := w) (z := z) h
  have h2 := sumW_take_le (w := w) xs (i + 1)
  omega
theorem sumW_bound {m : α → Nat} {c : Nat} (h : ∀ x, m x ≤ c * (1 + w x)) : ∀ xs : List α, sumW m xs ≤ c * (xs.length + sumW w xs)
  | [] => by simp [sumW]
  | x :: r => by
    have h1 := h x
    have h2 := sumW_bound h r
    simp only [sumW, List.length_cons]
    have : c * (r.length + 1 + (w x + sumW w r)) = c * (1 + w x) + c * (r.length + sumW w r) := by rw [← Nat.mul_add]; congr 1; omega
    omega
end
def wL {α : Type} (w : α → Nat) (xs : List α) : Nat := xs.length + sumW w xs
def wPlace (p : GPlace) : Nat := p.machines.length
def wRecord (r : GRecord) : Nat := r.sets.length
def wCopy (c : GCopy) : Nat := c.cells.length
def wMachine (m : GMachine) : Nat := wL wCopy m.copies + wL wRecord m.log + m.cleared.length
def wTx (t : GTx) : Nat := t.reads.length + t.sets.length
def wCluster (c : GCluster) : Nat := wL wPlace c.places + wL wMachine c.machines + wL wTx c.txs
abbrev bigN : Nat := 1048576
theorem bd_flat {α : Type} {N sz : Nat} {enc : α → List D} {z : α} {xs : List α} (h : xs.length ≤ N) (hf : ∀ x, D.bds N (enc x)) : D.bd N (dL sz enc z xs) := ⟨h, fun _ _ => hf _⟩
theorem bd_list {α : Type} {N sz : Nat} {enc : α → List D} {z : α} {w : α → Nat} {xs : List α} (h : wL w xs ≤ N) (hf : ∀ x, w x ≤ N → D.bds N (enc x)) : D.bd N (dL sz enc z xs) := by
  unfold wL at h
  exact ⟨by omega, fun i hi => hf _ (by have := sumW_get (w := w) (z := z) hi; omega)⟩
theorem bd_Int {N : Nat} (x : Int) : D.bds N (cInt x) := ⟨trivial, trivial⟩
theorem bd_Set {N : Nat} (x : GSet) : D.bds N (cSet x) := ⟨trivial, trivial, trivial, trivial, trivial, trivial⟩
theorem bd_Note {N : Nat} (x : GNote) : D.bds N (cNote x) := ⟨trivial, trivial, trivial, trivial, trivial, trivial⟩
theorem bd_Cell {N : Nat} (x : GCell) : D.bds N (cCell x) := ⟨trivial, trivial, trivial⟩
theorem bd_Place {N : Nat} (x : GPlace) (h : wPlace x ≤ N) : D.bds N (cPlace x) := ⟨bd_flat h bd_Int, trivial⟩
theorem bd_Record {N : Nat} (x : GRecord) (h : wRecord x ≤ N) : D.bds N (cRecord x) := ⟨trivial, trivial, trivial, bd_flat h bd_Set, trivial⟩
theorem bd_Copy {N : Nat} (x : GCopy) (h : wCopy x ≤ N) : D.bds N (cCopy x) := ⟨trivial, bd_flat h bd_Cell, trivial⟩
theorem bd_Machine {N : Nat} (x : GMachine) (h : wMachine x ≤ N) : D.bds N (cMachine x) := by
  unfold wMachine at h
  exact ⟨trivial, bd_list (w := wCopy) (by omega) fun x h => bd_Copy x h, bd_list (w := wRecord) (by omega) fun x h => bd_Record x h, bd_flat (by omega) bd_Int, trivial⟩
theorem bd_Tx {N : Nat} (x : GTx) (h : wTx x ≤ N) : D.bds N (cTx x) := by
  unfold wTx at h
  exact ⟨trivial, trivial, trivial, trivial, bd_flat (by omega) bd_Note, bd_flat (by omega) bd_Set, trivial, trivial⟩
theorem bd_Cluster {N : Nat} (x : GCluster) (h : wCluster x ≤ N) : D.bds N (cCluster x) := by
  unfold wCluster at h
  exact ⟨trivial, trivial, bd_list (w := wPlace) (by omega) fun x h => bd_Place x h, bd_list (w := wMachine) (by omega) fun x h => bd_Machine x h, bd_list (w := wTx) (by omega) fun x h => bd_Tx x h, trivial, trivial⟩
def tab {α : Type} (n : Nat) (g : Nat → α) : List α := (List.range n).map g
theorem tab_length {α : Type} (n : Nat) (g : Nat → α) : (tab n g).length = n := by simp [tab]
theorem tab_getD {α : Type} {n : Nat} {g : Nat → α} {z : α} {i : Nat} (h : i < n) : (tab n g).getD i z = g i := by simp [tab, h]
theorem imp_tab {α : Type} {sz n : Nat} {enc : α → List D} {z : α} {g : Nat → α} : (Ch.arr sz n fun i => enc (g i)).imp (arrC sz enc z (tab n g)) := Ch.imp_len (tab_length n g).symm fun i hi => by rw [tab_getD hi]
def mkInt64L (xs : List Int) (k : Int) : List Int := tab xs.length fun j => k + (j : Nat)
def mkSetL (xs : List GSet) (k : Int) : List GSet := tab xs.length fun j => mkSet (k + 5 * (j : Nat))
def mkNoteL (xs : List GNote) (k : Int) : List GNote := tab xs.length fun j => mkNote (k + 5 * (j : Nat))
def mkCellL (xs : List GCell) (k : Int) : List GCell := tab xs.length fun j => mkCell (k + 2 * (j : Nat))
def mkL {α : Type} (mk : α → Int → α) (m : α → Nat) (z : α) (xs : List α) (k : Int) : List α := tab xs.length fun j => mk (xs.getD j z) (k + (sumW m (xs.take j) : Nat))
def mPlace (x : GPlace) : Nat := x.machines.length
def mkPlace (x : GPlace) (k : Int) : GPlace := ⟨mkInt64L x.machines k⟩
def mRecord (x : GRecord) : Nat := 3 + 5 * x.sets.length
def mkRecord (x : GRecord) (k : Int) : GRecord := ⟨k, k + 1, k + 1 + 1, mkSetL x.sets (k + 1 + 1 + 1)⟩
def mCopy (x : GCopy) : Nat := 1 + 2 * x.cells.length
def mkCopy (x : GCopy) (k : Int) : GCopy := ⟨k, mkCellL x.cells (k + 1)⟩
def mMachine (x : GMachine) : Nat := 1 + sumW mCopy x.copies + sumW mRecord x.log + x.cleared.length
def mkMachine (x : GMachine) (k : Int) : GMachine := ⟨k.tmod 3 == 0, mkL mkCopy mCopy GCopy.z x.copies (k + 1), mkL mkRecord mRecord GRecord.z x.log (k + 1 + sumW mCopy x.copies), mkInt64L x.cleared (k + 1 + sumW mCopy x.copies + sumW mRecord x.log)⟩
def mTx (x : GTx) : Nat := 5 + 5 * x.reads.length + 5 * x.sets.length
def mkTx (x : GTx) (k : Int) : GTx := ⟨k, k + 1, k + 1 + 1, k + 1 + 1 + 1, mkNoteL x.reads (k + 1 + 1 + 1 + 1), mkSetL x.sets (k + 1 + 1 + 1 + 1 + 5 * x.reads.length), k + 1 + 1 + 1 + 1 + 5 * x.reads.length + 5 * x.sets.length⟩
def mCluster (x : GCluster) : Nat := sumW mPlace x.places + sumW mMachine x.machines + sumW mTx x.txs
def mkCluster (x : GCluster) (k : Int) : GCluster := { x with places := mkL mkPlace mPlace GPlace.z x.places k, machines := mkL mkMachine mMachine GMachine.z x.machines (k + sumW mPlace x.places), txs := mkL mkTx mTx GTx.z x.txs (k + sumW mPlace x.places + sumW mMachine x.machines) }
theorem mPlace_le (x : GPlace) : mPlace x ≤ 7 * (1 + wPlace x) := by unfold mPlace wPlace; omega
theorem mRecord_le (x : GRecord) : mRecord x ≤ 7 * (1 + wRecord x) := by unfold mRecord wRecord; omega
theorem mCopy_le (x : GCopy) : mCopy x ≤ 7 * (1 + wCopy x) := by unfold mCopy wCopy; omega
theorem mMachine_le (x : GMachine) : mMachine x ≤ 7 * (1 + wMachine x) := by
  have h1 := sumW_bound mCopy_le x.copies
  have h2 := sumW_bound mRecord_le x.log
  unfold mMachine wMachine wL; omega
theorem mTx_le (x : GTx) : mTx x ≤ 7 * (1 + wTx x) := by unfold mTx wTx; omega
theorem mCluster_le (x : GCluster) : mCluster x ≤ 7 * wCluster x := by
  have h1 := sumW_bound mPlace_le x.places
  have h2 := sumW_bound mMachine_le x.machines
  have h3 := sumW_bound mTx_le x.txs
  unfold mCluster wCluster wL; omega
theorem szI_mono {l : Int} {a n : Nat} (h : szI l a < 0) (hn : a ≤ n) : szI l n = -1 := by
  unfold szI at h ⊢
  split at h
  · rw [if_pos (by omega)]
  · omega
theorem szI_ge {l : Int} {a b : Nat} (h : ¬ szI l a < 0) : szI (szI l a) b = szI l (a + b) := by
  unfold szI at h ⊢
  split at h
  · omega
  · rename_i h1
    rw [if_neg h1]
    by_cases c : l - a - b < 0
    · rw [if_pos c, if_pos (by omega)]
    · rw [if_neg c, if_neg (by omega)]; omega
theorem szI_in {l : Int} {a : Nat} (h : ¬ szI l a < 0) : 0 ≤ szI l a ∧ szI l a ≤ l ∧ szI l a = l - a ∧ (a : Int) ≤ l := by
  unfold szI at h ⊢
  split at h
  · omega
  · rename_i h1
    rw [if_neg h1]; omega
theorem szI_no {l : Int} {a : Nat} (h : l - a < 0) : szI l a < 0 := by unfold szI; rw [if_pos h]; omega
theorem szI_yes {l : Int} {a : Nat} (h : (a : Int) ≤ l) : szI l a = l - a := by unfold szI; rw [if_neg (by omega)]
theorem imp_untabS {P : Program} {α : Type} {sz n : Nat} {enc : α → List D} {z : α} {g : Nat → α} : (SV.a (.s .r sz (tab n g).length fun i => enc ((tab n g).getD i z))).imp P (.a (.s .r sz n fun i => enc (g i))) := by
  have h : (SV.a (.s .r sz n fun i => enc ((tab n g).getD i z))).imp P (.a (.s .r sz n fun i => enc (g i))) := SV.imp_s fun i hi => by rw [tab_getD hi]
  rwa [show (SV.a (.s .r sz (tab n g).length fun i => enc ((tab n g).getD i z))) = .a (.s .r sz n fun i => enc ((tab n g).getD i z)) from by rw [tab_length]]
theorem markSetS_w (xs : List GSet) (hl : xs.length ≤ 1048576) (k0 : Int) (h1 : 0 ≤ k0) (h2 : k0 ≤ 1099511627776) : Con Tryz.prog 108 [900] [.a (.g 900), vI k0] [(900, arrC 5 cSet GSet.z xs)] (fun _ : Unit => True) (fun _ => [vI (k0 + 5 * xs.length)]) fun _ => [(900, arrC 5 cSet GSet.z (mkSetL xs k0))] :=
  (markSetS_c xs hl k0 h1 h2).wkM fun _ _ => ⟨⟨_, rfl, imp_tab⟩, trivial⟩
theorem markNoteS_w (xs : List GNote) (hl : xs.length ≤ 1048576) (k0 : Int) (h1 : 0 ≤ k0) (h2 : k0 ≤ 1099511627776) : Con Tryz.prog 107 [900] [.a (.g 900), vI k0] [(900, arrC 5 cNote GNote.z xs)] (fun _ : Unit => True) (fun _ => [vI (k0 + 5 * xs.length)]) fun _ => [(900, arrC 5 cNote GNote.z (mkNoteL xs k0))] :=
  (markNoteS_c xs hl k0 h1 h2).wkM fun _ _ => ⟨⟨_, rfl, imp_tab⟩, trivial⟩
theorem markCellS_w (xs : List GCell) (hl : xs.length ≤ 1048576) (k0 : Int) (h1 : 0 ≤ k0) (h2 : k0 ≤ 1099511627776) : Con Tryz.prog 24 [900] [.a (.g 900), vI k0] [(900, arrC 2 cCell GCell.z xs)] (fun _ : Unit => True) (fun _ => [vI (k0 + 2 * xs.length)]) fun _ => [(900, arrC 2 cCell GCell.z (mkCellL xs k0))] :=
  (markCellS_c xs hl k0 h1 h2).wkM fun _ _ => ⟨⟨_, rfl, imp_tab⟩, trivial⟩
theorem heldCellS_w (xs : List GCell) (hl : xs.length ≤ 1048576) (k0 : Int) (h1 : 0 ≤ k0) (h2 : k0 ≤ 1099511627776) : Ans Tryz.prog 25 [] [vL 2 cCell GCell.z (mkCellL xs k0), vI k0] [] (vI (k0 + 2 * xs.length)) :=
  (heldCellS_q xs.length hl k0 h1 h2).wkA ⟨_, _, rfl, imp_untabS, SVs.imp_refl _⟩
theorem markInt64S_w (xs : List Int) (hl : xs.length ≤ 1048576) (k0 : Int) (h1 : 0 ≤ k0) (h2 : k0 ≤ 1099511627776) : Con Tryz.prog 17 [900] [.a (.g 900), vI k0] [(900, arrC 1 cInt 0 xs)] (fun _ : Unit => True) (fun _ => [vI (k0 + xs.length)]) fun _ => [(900, arrC 1 cInt 0 (mkInt64L xs k0))] :=
  ((markInt64S_c xs hl k0 h1 h2).wkM (mu'' := fun _ => [(900, arrC 1 cInt 0 (mkInt64L xs k0))]) fun _ _ => ⟨⟨_, rfl, Ch.imp_len (tab_length _ _).symm fun i hi => by rw [mkInt64L, tab_getD hi, Int.one_mul]⟩, trivial⟩).wkR fun _ _ => ⟨_, _, rfl, SV.imp_of (vI_eq (by omega)), rfl⟩
theorem toInt64S_m (xs : List Int) (hl : xs.length ≤ 1048576) : MkL Tryz.prog 131 [vL 1 cInt 0 xs] 1 cInt 0 xs := by
  refine con_enter Tryz.func131 rfl rfl rfl fun B0 r_ D_ w0 => ?_
  refine T_auto TT_ok rfl ?_
  refine RJ_make TT_ok 7 xs.length rfl rfl rfl rfl rfl rfl rfl ⟨by simp; omega, by unfold maxL; omega⟩ ?_
  refine RJ_auto TT_ok rfl ?_
  refine T_loopA (ι := Nat) (fun i => [(4, vI i)]) (fun i => [(7, .arr 1 xs.length fun k => cInt (if k < i then xs.getD k 0 else 0))]) (fun i => i ≤ xs.length) (fun i => xs.length - i) 0 [7] [] rfl rfl (Nat.zero_le _) (by repeat (first | exact trivial | refine And.intro ⟨_, rfl, SV.imp_refl _⟩ ?_)) ⟨⟨_, rfl, Ch.imp_arr fun k hk => by rw [if_neg (Nat.not_lt_zero _)]; rfl⟩, trivial⟩ ?_
  intro i h1
  refine T_auto TT_ok rfl ?_
  refine T_condD rfl (fun e => ?_) (fun e => ?_)
  · have hi : i < xs.length := by omega
    refine T_auto TT_ok rfl ?_
    exact X_inv (i + 1) hi (by omega) (by repeat (first | exact trivial | refine And.intro ⟨_, rfl, SV.imp_refl _⟩ ?_)) ⟨⟨_, rfl, Ch.imp_arr fun k hk => fill_step (fun x => cInt x) rfl⟩, (by repeat (first | exact trivial | refine And.intro ⟨_, rfl, Ch.imp_refl _⟩ ?_))⟩
  · have hi : i = xs.length := by omega
    subst hi
    refine T_auto TT_ok rfl ?_
    refine T_view (V_sw 7 900) ?_
    refine T_ret TT_ok (()) [(2, none)] rfl rfl ?_ ?_ ?_
    · exact SVs.imp_refl _
    · exact ⟨⟨_, rfl, Ch.imp_arr fun k hk => by rw [if_pos hk]⟩, trivial⟩
    · trivial
theorem szInt64S_q (xs : List Int) (hx : xs.length ≤ maxL) (l : Int) (h1 : 0 ≤ l) (h2 : l ≤ 1048576) : Ans Tryz.prog 125 [] [vL 1 cInt 0 xs, vI l] [] (vI (szI l xs.length)) := by
  unfold maxL at hx
  refine con_enter Tryz.func125 rfl rfl rfl fun B0 r_ D_ w0 => ?_
  refine T_auto TT_ok rfl ?_
  refine T_condD rfl (fun e => ?_) (fun e => ?_)
  · refine T_auto TT_ok rfl ?_
    exact T_ansI TT_ok [(4, none)] rfl rfl (by rw [szI, if_pos e])
  · refine T_auto TT_ok rfl ?_
    exact T_ansI TT_ok [(4, none)] rfl rfl (by rw [szI, if_neg e])
end Go.Proofs.YthpjoddhlkcciaaGreat
namespace Go.Proofs.YthpjoddhlkcciaaGreat
open Go Go.RowKit
set_option linter.unusedVariables false
set_option linter.unusedSimpArgs false
set_option maxRecDepth 4000
theorem any_at {α : Type} {p : α → Bool} {z : α} {xs : List α} {i : Nat} (hi : i < xs.length) (h : p (xs.getD i z) = true) : xs.any p = true := List.any_eq_true.2 ⟨xs.getD i z, by simp [hi], h⟩
theorem any_no {α : Type} {p : α → Bool} {z : α} {xs : List α} (h : ∀ j, j < xs.length → p (xs.getD j z) = false) : xs.any p = false := by
  rw [List.any_eq_false]
  intro x hx
  obtain ⟨a, ha, rfl⟩ := List.mem_iff_getElem.1 hx
  have := h a ha
  simp [ha] at this
  simp [this]
theorem any_get {α : Type} {p : α → Bool} {z : α} {xs : List α} (h : xs.any p = false) : ∀ j, j < xs.length → p (xs.getD j z) = false := fun j hj => by
  rw [List.any_eq_false] at h
  have := h (xs.getD j z) (by simp [hj])
  simpa using this
theorem idxI_any {α : Type} (p : α → Bool) (z : α) (xs : List α) : decide (idxI p xs ≥ 0) = xs.any p := by
  rcases idxI_cases p z xs with ⟨h1, h2⟩ | ⟨i, h1, h2, h3, h4⟩
  · rw [any_no h2, h1]; rfl
  · rw [any_at h1 h4, h2]; simp
theorem imp_fbO {P : Program} {α : Type} {rd : α → List RD} (p : α → Bool) : (fbO rd fun x => .bool (p x)).imp P (fbP (fun _ => True) rd fun x => .bool (p x)) := by
  intro B Z y ⟨f, vs, h1, h2⟩
  refine ⟨f, vs, h1, h2.1, fun args x ⟨a, _, e1, e2⟩ => h2.2 args x ⟨a, e1, e2⟩⟩
theorem indexFuncSet_p (xs : List GSet) (hl : xs.length ≤ 1048576) (S : GSet → Prop) (hS : ∀ i, i < xs.length → S (xs.getD i GSet.z)) (p : GSet → Bool) : Ans Tryz.prog 149 [] [vL 5 cSet GSet.z xs, fbP S (fun x => [RD.ag (cSet x)]) fun x => .bool (p x)] [] (vI (idxI p xs)) := by
  refine con_enter Tryz.func149 rfl rfl rfl fun B0 r_ D_ w0 => ?_
  refine T_auto TT_ok rfl ?_
  refine T_loopA (ι := Nat) (fun i => [(8, vI i)]) (fun _ => []) (fun i => i ≤ xs.length ∧ ∀ j, j < i → p (xs.getD j GSet.z) = false) (fun i => xs.length - i) 0 [] [] rfl rfl ⟨Nat.zero_le _, fun j hj => absurd hj (Nat.not_lt_zero _)⟩ (by repeat (first | exact trivial | refine And.intro ⟨_, rfl, SV.imp_refl _⟩ ?_)) (by repeat (first | exact trivial | refine And.intro ⟨_, rfl, Ch.imp_refl _⟩ ?_)) ?_
  intro i ⟨h1, h2⟩
  refine T_auto TT_ok rfl ?_
  refine T_condD rfl (fun e => ?_) (fun e => ?_)
  · have hi : i < xs.length := by omega
    refine T_auto TT_ok rfl ?_
    refine RJ_F rfl rfl rfl ⟨xs.getD i GSet.z, hS i hi, rfl, rfl⟩ ?_
    refine RJ_auto TT_ok rfl ?_
    refine T_cond rfl (fun e2 => ?_) (fun e2 => ?_)
    · refine T_auto TT_ok rfl ?_
      exact T_ansI TT_ok [(4, none)] rfl rfl ((idxI_at hi h2 e2).symm)
    · refine T_auto TT_ok rfl ?_
      exact X_inv (i + 1) ⟨hi, before_succ h2 e2⟩ (by omega) (by repeat (first | exact trivial | refine And.intro ⟨_, rfl, SV.imp_refl _⟩ ?_)) (by repeat (first | exact trivial | refine And.intro ⟨_, rfl, Ch.imp_refl _⟩ ?_))
  · refine T_auto TT_ok rfl ?_
    exact T_ansI TT_ok [(4, none)] rfl rfl ((idxI_no fun j hj => h2 j (by omega)).symm)
theorem containsFuncSet_p (xs : List GSet) (hl : xs.length ≤ 1048576) (S : GSet → Prop) (hS : ∀ i, i < xs.length → S (xs.getD i GSet.z)) (p : GSet → Bool) : Ans Tryz.prog 93 [] [vL 5 cSet GSet.z xs, fbP S (fun x => [RD.ag (cSet x)]) fun x => .bool (p x)] [] (vB (xs.any p)) := by
  refine con_enter Tryz.func93 rfl rfl rfl fun B0 r_ D_ w0 => ?_
  refine T_auto TT_ok rfl ?_
  refine RJ_Q TT_ok (indexFuncSet_p xs hl S hS p) rfl rfl rfl rfl rfl ?_
  exact T_ansB TT_ok [(4, none)] rfl rfl (idxI_any p GSet.z xs)
theorem containsFuncSet_q (xs : List GSet) (hl : xs.length ≤ 1048576) (p : GSet → Bool) : Ans Tryz.prog 93 [] [vL 5 cSet GSet.z xs, fbO (fun x => [RD.ag (cSet x)]) fun x => .bool (p x)] [] (vB (xs.any p)) :=
  (containsFuncSet_p xs hl (fun _ => True) (fun _ _ => trivial) p).wkA ⟨_, _, rfl, SV.imp_refl _, _, _, rfl, imp_fbO p, rfl⟩
theorem indexFuncNote_p (xs : List GNote) (hl : xs.length ≤ 1048576) (S : GNote → Prop) (hS : ∀ i, i < xs.length → S (xs.getD i GNote.z)) (p : GNote → Bool) : Ans Tryz.prog 148 [] [vL 5 cNote GNote.z xs, fbP S (fun x => [RD.ag (cNote x)]) fun x => .bool (p x)] [] (vI (idxI p xs)) := by
  refine con_enter Tryz.func148 rfl rfl rfl fun B0 r_ D_ w0 => ?_
  refine T_auto TT_ok rfl ?_
  refine T_loopA (ι := Nat) (fun i => [(8, vI i)]) (fun _ => []) (fun i => i ≤ xs.length ∧ ∀ j, j < i → p (xs.getD j GNote.z) = false) (fun i => xs.length - i) 0 [] [] rfl rfl ⟨Nat.zero_le _, fun j hj => absurd hj (Nat.not_lt_zero _)⟩ (by repeat (first | exact trivial | refine And.intro ⟨_, rfl, SV.imp_refl _⟩ ?_)) (by repeat (first | exact trivial | refine And.intro ⟨_, rfl, Ch.imp_refl _⟩ ?_)) ?_
  intro i ⟨h1, h2⟩
  refine T_auto TT_ok rfl ?_
  refine T_condD rfl (fun e => ?_) (fun e => ?_)
  · have hi : i < xs.length := by omega
    refine T_auto TT_ok rfl ?_
    refine RJ_F rfl rfl rfl ⟨xs.getD i GNote.z, hS i hi, rfl, rfl⟩ ?_
    refine RJ_auto TT_ok rfl ?_
    refine T_cond rfl (fun e2 => ?_) (fun e2 => ?_)
    · refine T_auto TT_ok rfl ?_
      exact T_ansI TT_ok [(4, none)] rfl rfl ((idxI_at hi h2 e2).symm)
    · refine T_auto TT_ok rfl ?_
      exact X_inv (i + 1) ⟨hi, before_succ h2 e2⟩ (by omega) (by repeat (first | exact trivial | refine And.intro ⟨_, rfl, SV.imp_refl _⟩ ?_)) (by repeat (first | exact trivial | refine And.intro ⟨_, rfl, Ch.imp_refl _⟩ ?_))
  · refine T_auto TT_ok rfl ?_
    exact T_ansI TT_ok [(4, none)] rfl rfl ((idxI_no fun j hj => h2 j (by omega)).symm)
theorem containsFuncNote_p (xs : List GNote) (hl : xs.length ≤ 1048576) (S : GNote → Prop) (hS : ∀ i, i < xs.length → S (xs.getD i GNote.z)) (p : GNote → Bool) : Ans Tryz.prog 91 [] [vL 5 cNote GNote.z xs, fbP S (fun x => [RD.ag (cNote x)]) fun x => .bool (p x)] [] (vB (xs.any p)) := by
  refine con_enter Tryz.func91 rfl rfl rfl fun B0 r_ D_ w0 => ?_
  refine T_auto TT_ok rfl ?_
  refine RJ_Q TT_ok (indexFuncNote_p xs hl S hS p) rfl rfl rfl rfl rfl ?_
  exact T_ansB TT_ok [(4, none)] rfl rfl (idxI_any p GNote.z xs)
theorem containsFuncNote_q (xs : List GNote) (hl : xs.length ≤ 1048576) (p : GNote → Bool) : Ans Tryz.prog 91 [] [vL 5 cNote GNote.z xs, fbO (fun x => [RD.ag (cNote x)]) fun x => .bool (p x)] [] (vB (xs.any p)) :=
  (containsFuncNote_p xs hl (fun _ => True) (fun _ _ => trivial) p).wkA ⟨_, _, rfl, SV.imp_refl _, _, _, rfl, imp_fbO p, rfl⟩
theorem indexFuncCell_p (xs : List GCell) (hl : xs.length ≤ 1048576) (S : GCell → Prop) (hS : ∀ i, i < xs.length → S (xs.getD i GCell.z)) (p : GCell → Bool) : Ans Tryz.prog 205 [] [vL 2 cCell GCell.z xs, fbP S (fun x => [RD.ag (cCell x)]) fun x => .bool (p x)] [] (vI (idxI p xs)) := by
  refine con_enter Tryz.func205 rfl rfl rfl fun B0 r_ D_ w0 => ?_
  refine T_auto TT_ok rfl ?_
  refine T_loopA (ι := Nat) (fun i => [(8, vI i)]) (fun _ => []) (fun i => i ≤ xs.length ∧ ∀ j, j < i → p (xs.getD j GCell.z) = false) (fun i => xs.length - i) 0 [] [] rfl rfl ⟨Nat.zero_le _, fun j hj => absurd hj (Nat.not_lt_zero _)⟩ (by repeat (first | exact trivial | refine And.intro ⟨_, rfl, SV.imp_refl _⟩ ?_)) (by repeat (first | exact trivial | refine And.intro ⟨_, rfl, Ch.imp_refl _⟩ ?_)) ?_
  intro i ⟨h1, h2⟩
  refine T_auto TT_ok rfl ?_
  refine T_condD rfl (fun e => ?_) (fun e => ?_)
  · have hi : i < xs.length := by omega
    refine T_auto TT_ok rfl ?_
    refine RJ_F rfl rfl rfl ⟨xs.getD i GCell.z, hS i hi, rfl, rfl⟩ ?_
    refine RJ_auto TT_ok rfl ?_
    refine T_cond rfl (fun e2 => ?_) (fun e2 => ?_)
    · refine T_auto TT_ok rfl ?_
      exact T_ansI TT_ok [(4, none)] rfl rfl ((idxI_at hi h2 e2).symm)
    · refine T_auto TT_ok rfl ?_
      exact X_inv (i + 1) ⟨hi, before_succ h2 e2⟩ (by omega) (by repeat (first | exact trivial | refine And.intro ⟨_, rfl, SV.imp_refl _⟩ ?_)) (by repeat (first | exact trivial | refine And.intro ⟨_, rfl, Ch.imp_refl _⟩ ?_))
  · refine T_auto TT_ok rfl ?_
    exact T_ansI TT_ok [(4, none)] rfl rfl ((idxI_no fun j hj => h2 j (by omega)).symm)
theorem containsFuncCell_p (xs : List GCell) (hl : xs.length ≤ 1048576) (S : GCell → Prop) (hS : ∀ i, i < xs.length → S (xs.getD i GCell.z)) (p : GCell → Bool) : Ans Tryz.prog 183 [] [vL 2 cCell GCell.z xs, fbP S (fun x => [RD.ag (cCell x)]) fun x => .bool (p x)] [] (vB (xs.any p)) := by
  refine con_enter Tryz.func183 rfl rfl rfl fun B0 r_ D_ w0 => ?_
  refine T_auto TT_ok rfl ?_
  refine RJ_Q TT_ok (indexFuncCell_p xs hl S hS p) rfl rfl rfl rfl rfl ?_
  exact T_ansB TT_ok [(4, none)] rfl rfl (idxI_any p GCell.z xs)
theorem containsFuncCell_q (xs : List GCell) (hl : xs.length ≤ 1048576) (p : GCell → Bool) : Ans Tryz.prog 183 [] [vL 2 cCell GCell.z xs, fbO (fun x => [RD.ag (cCell x)]) fun x => .bool (p x)] [] (vB (xs.any p)) :=
  (containsFuncCell_p xs hl (fun _ => True) (fun _ _ => trivial) p).wkA ⟨_, _, rfl, SV.imp_refl _, _, _, rfl, imp_fbO p, rfl⟩
theorem indexFuncMachine_p (xs : List GMachine) (hl : xs.length ≤ 1048576) (S : GMachine → Prop) (hS : ∀ i, i < xs.length → S (xs.getD i GMachine.z)) (p : GMachine → Bool) : Ans Tryz.prog 139 [] [vL 4 cMachine GMachine.z xs, fbP S (fun x => [RD.ag (cMachine x)]) fun x => .bool (p x)] [] (vI (idxI p xs)) := by
  refine con_enter Tryz.func139 rfl rfl rfl fun B0 r_ D_ w0 => ?_
  refine T_auto TT_ok rfl ?_
  refine T_loopA (ι := Nat) (fun i => [(8, vI i)]) (fun _ => []) (fun i => i ≤ xs.length ∧ ∀ j, j < i → p (xs.getD j GMachine.z) = false) (fun i => xs.length - i) 0 [] [] rfl rfl ⟨Nat.zero_le _, fun j hj => absurd hj (Nat.not_lt_zero _)⟩ (by repeat (first | exact trivial | refine And.intro ⟨_, rfl, SV.imp_refl _⟩ ?_)) (by repeat (first | exact trivial | refine And.intro ⟨_, rfl, Ch.imp_refl _⟩ ?_)) ?_
  intro i ⟨h1, h2⟩
  refine T_auto TT_ok rfl ?_
  refine T_condD rfl (fun e => ?_) (fun e => ?_)
  · have hi : i < xs.length := by omega
    refine T_auto TT_ok rfl ?_
    refine RJ_F rfl rfl rfl ⟨xs.getD i GMachine.z, hS i hi, rfl, rfl⟩ ?_
    refine RJ_auto TT_ok rfl ?_
    refine T_cond rfl (fun e2 => ?_) (fun e2 => ?_)
    · refine T_auto TT_ok rfl ?_
      exact T_ansI TT_ok [(4, none)] rfl rfl ((idxI_at hi h2 e2).symm)
    · refine T_auto TT_ok rfl ?_
      exact X_inv (i + 1) ⟨hi, before_succ h2 e2⟩ (by omega) (by repeat (first | exact trivial | refine And.intro ⟨_, rfl, SV.imp_refl _⟩ ?_)) (by repeat (first | exact trivial | refine And.intro ⟨_, rfl, Ch.imp_refl _⟩ ?_))
  · refine T_auto TT_ok rfl ?_
    exact T_ansI TT_ok [(4, none)] rfl rfl ((idxI_no fun j hj => h2 j (by omega)).symm)
theorem containsFuncMachine_p (xs : List GMachine) (hl : xs.length ≤ 1048576) (S : GMachine → Prop) (hS : ∀ i, i < xs.length → S (xs.getD i GMachine.z)) (p : GMachine → Bool) : Ans Tryz.prog 87 [] [vL 4 cMachine GMachine.z xs, fbP S (fun x => [RD.ag (cMachine x)]) fun x => .bool (p x)] [] (vB (xs.any p)) := by
  refine con_enter Tryz.func87 rfl rfl rfl fun B0 r_ D_ w0 => ?_
  refine T_auto TT_ok rfl ?_
  refine RJ_Q TT_ok (indexFuncMachine_p xs hl S hS p) rfl rfl rfl rfl rfl ?_
  exact T_ansB TT_ok [(4, none)] rfl rfl (idxI_any p GMachine.z xs)
theorem indexFuncRecord_p (xs : List GRecord) (hl : xs.length ≤ 1048576) (S : GRecord → Prop) (hS : ∀ i, i < xs.length → S (xs.getD i GRecord.z)) (p : GRecord → Bool) : Ans Tryz.prog 179 [] [vL 4 cRecord GRecord.z xs, fbP S (fun x => [RD.ag (cRecord x)]) fun x => .bool (p x)] [] (vI (idxI p xs)) := by
  refine con_enter Tryz.func179 rfl rfl rfl fun B0 r_ D_ w0 => ?_
  refine T_auto TT_ok rfl ?_
  refine T_loopA (ι := Nat) (fun i => [(8, vI i)]) (fun _ => []) (fun i => i ≤ xs.length ∧ ∀ j, j < i → p (xs.getD j GRecord.z) = false) (fun i => xs.length - i) 0 [] [] rfl rfl ⟨Nat.zero_le _, fun j hj => absurd hj (Nat.not_lt_zero _)⟩ (by repeat (first | exact trivial | refine And.intro ⟨_, rfl, SV.imp_refl _⟩ ?_)) (by repeat (first | exact trivial | refine And.intro ⟨_, rfl, Ch.imp_refl _⟩ ?_)) ?_
  intro i ⟨h1, h2⟩
  refine T_auto TT_ok rfl ?_
  refine T_condD rfl (fun e => ?_) (fun e => ?_)
  · have hi : i < xs.length := by omega
    refine T_auto TT_ok rfl ?_
    refine RJ_F rfl rfl rfl ⟨xs.getD i GRecord.z, hS i hi, rfl, rfl⟩ ?_
    refine RJ_auto TT_ok rfl ?_
    refine T_cond rfl (fun e2 => ?_) (fun e2 => ?_)
    · refine T_auto TT_ok rfl ?_
      exact T_ansI TT_ok [(4, none)] rfl rfl ((idxI_at hi h2 e2).symm)
    · refine T_auto TT_ok rfl ?_
      exact X_inv (i + 1) ⟨hi, before_succ h2 e2⟩ (by omega) (by repeat (first | exact trivial | refine And.intro ⟨_, rfl, SV.imp_refl _⟩ ?_)) (by repeat (first | exact trivial | refine And.intro ⟨_, rfl, Ch.imp_refl _⟩ ?_))
  · refine T_auto TT_ok rfl ?_
    exact T_ansI TT_ok [(4, none)] rfl rfl ((idxI_no fun j hj => h2 j (by omega)).symm)
theorem containsFuncRecord_p (xs : List GRecord) (hl : xs.length ≤ 1048576) (S : GRecord → Prop) (hS : ∀ i, i < xs.length → S (xs.getD i GRecord.z)) (p : GRecord → Bool) : Ans Tryz.prog 140 [] [vL 4 cRecord GRecord.z xs, fbP S (fun x => [RD.ag (cRecord x)]) fun x => .bool (p x)] [] (vB (xs.any p)) := by
  refine con_enter Tryz.func140 rfl rfl rfl fun B0 r_ D_ w0 => ?_
  refine T_auto TT_ok rfl ?_
  refine RJ_Q TT_ok (indexFuncRecord_p xs hl S hS p) rfl rfl rfl rfl rfl ?_
  exact T_ansB TT_ok [(4, none)] rfl rfl (idxI_any p GRecord.z xs)
theorem indexFuncTx_p (xs : List GTx) (hl : xs.length ≤ 1048576) (S : GTx → Prop) (hS : ∀ i, i < xs.length → S (xs.getD i GTx.z)) (p : GTx → Bool) : Ans Tryz.prog 150 [] [vL 7 cTx GTx.z xs, fbP S (fun x => [RD.ag (cTx x)]) fun x => .bool (p x)] [] (vI (idxI p xs)) := by
  refine con_enter Tryz.func150 rfl rfl rfl fun B0 r_ D_ w0 => ?_
  refine T_auto TT_ok rfl ?_
  refine T_loopA (ι := Nat) (fun i => [(8, vI i)]) (fun _ => []) (fun i => i ≤ xs.length ∧ ∀ j, j < i → p (xs.getD j GTx.z) = false) (fun i => xs.length - i) 0 [] [] rfl rfl ⟨Nat.zero_le _, fun j hj => absurd hj (Nat.not_lt_zero _)⟩ (by repeat (first | exact trivial | refine And.intro ⟨_, rfl, SV.imp_refl _⟩ ?_)) (by repeat (first | exact trivial | refine And.intro ⟨_, rfl, Ch.imp_refl _⟩ ?_)) ?_
  intro i ⟨h1, h2⟩
  refine T_auto TT_ok rfl ?_
  refine T_condD rfl (fun e => ?_) (fun e => ?_)
  · have hi : i < xs.length := by omega
    refine T_auto TT_ok rfl ?_
    refine RJ_F rfl rfl rfl ⟨xs.getD i GTx.z, hS i hi, rfl, rfl⟩ ?_
    refine RJ_auto TT_ok rfl ?_
    refine T_cond rfl (fun e2 => ?_) (fun e2 => ?_)
    · refine T_auto TT_ok rfl ?_
      exact T_ansI TT_ok [(4, none)] rfl rfl ((idxI_at hi h2 e2).symm)
    · refine T_auto TT_ok rfl ?_
      exact X_inv (i + 1) ⟨hi, before_succ h2 e2⟩ (by omega) (by repeat (first | exact trivial | refine And.intro ⟨_, rfl, SV.imp_refl _⟩ ?_)) (by repeat (first | exact trivial | refine And.intro ⟨_, rfl, Ch.imp_refl _⟩ ?_))
  · refine T_auto TT_ok rfl ?_
    exact T_ansI TT_ok [(4, none)] rfl rfl ((idxI_no fun j hj => h2 j (by omega)).symm)
theorem index_Int_q (xs : List Int) (hl : xs.length ≤ 1048576) (v : Int) : Ans Tryz.prog 178 [] [vL 1 cInt 0 xs, vI v] [] (vI (idxI (fun x => v == x) xs)) := by
  refine con_enter Tryz.func178 rfl rfl rfl fun B0 r_ D_ w0 => ?_
  refine T_auto TT_ok rfl ?_
  refine T_loopA (ι := Nat) (fun i => [(8, vI i)]) (fun _ => []) (fun i => i ≤ xs.length ∧ ∀ j, j < i → (v == xs.getD j 0) = false) (fun i => xs.length - i) 0 [] [] rfl rfl ⟨Nat.zero_le _, fun j hj => absurd hj (Nat.not_lt_zero _)⟩ (by repeat (first | exact trivial | refine And.intro ⟨_, rfl, SV.imp_refl _⟩ ?_)) (by repeat (first | exact trivial | refine And.intro ⟨_, rfl, Ch.imp_refl _⟩ ?_)) ?_
  intro i ⟨h1, h2⟩
  refine T_auto TT_ok rfl ?_
  refine T_condD rfl (fun e => ?_) (fun e => ?_)
  · have hi : i < xs.length := by omega
    refine T_auto TT_ok rfl ?_
    refine T_cond rfl (fun e2 => ?_) (fun e2 => ?_)
    · refine T_auto TT_ok rfl ?_
      exact T_ansI TT_ok [(4, none)] rfl rfl ((idxI_at (p := fun x => v == x) hi h2 e2).symm)
    · refine T_auto TT_ok rfl ?_
      exact X_inv (i + 1) ⟨hi, before_succ h2 e2⟩ (by omega) (by repeat (first | exact trivial | refine And.intro ⟨_, rfl, SV.imp_refl _⟩ ?_)) (by repeat (first | exact trivial | refine And.intro ⟨_, rfl, Ch.imp_refl _⟩ ?_))
  · refine T_auto TT_ok rfl ?_
    exact T_ansI TT_ok [(4, none)] rfl rfl ((idxI_no (p := fun x => v == x) fun j hj => h2 j (by omega)).symm)
theorem contains_Int_q (xs : List Int) (hl : xs.length ≤ 1048576) (v : Int) : Ans Tryz.prog 138 [] [vL 1 cInt 0 xs, vI v] [] (vB (decide (v ∈ xs))) := by
  refine con_enter Tryz.func138 rfl rfl rfl fun B0 r_ D_ w0 => ?_
  refine T_auto TT_ok rfl ?_
  refine RJ_Q TT_ok (index_Int_q xs hl v) rfl rfl rfl rfl rfl ?_
  exact T_ansB TT_ok [(4, none)] rfl rfl ((by rw [idxI_any _ 0, Bool.eq_iff_iff, List.any_eq_true]; simp))
theorem sizePlace_q (xs : List GPlace) : Ans Tryz.prog 59 [] [vL 1 cPlace GPlace.z xs] [] (vI xs.length) := by
  refine con_enter Tryz.func59 rfl rfl rfl fun B0 r_ D_ w0 => ?_
  refine T_auto TT_ok rfl ?_
  exact T_ansI TT_ok [(2, none)] rfl rfl (rfl)
theorem sizeMachine_q (xs : List GMachine) : Ans Tryz.prog 84 [] [vL 4 cMachine GMachine.z xs] [] (vI xs.length) := by
  refine con_enter Tryz.func84 rfl rfl rfl fun B0 r_ D_ w0 => ?_
  refine T_auto TT_ok rfl ?_
  exact T_ansI TT_ok [(2, none)] rfl rfl (rfl)
theorem sizeSet_q (xs : List GSet) : Ans Tryz.prog 180 [] [vL 5 cSet GSet.z xs] [] (vI xs.length) := by
  refine con_enter Tryz.func180 rfl rfl rfl fun B0 r_ D_ w0 => ?_
  refine T_auto TT_ok rfl ?_
  exact T_ansI TT_ok [(2, none)] rfl rfl (rfl)
theorem sizeInt64_q (xs : List Int) : Ans Tryz.prog 136 [] [vL 1 cInt 0 xs] [] (vI xs.length) := by
  refine con_enter Tryz.func136 rfl rfl rfl fun B0 r_ D_ w0 => ?_
  refine T_auto TT_ok rfl ?_
  exact T_ansI TT_ok [(2, none)] rfl rfl (rfl)
end Go.Proofs.YthpjoddhlkcciaaGreat
namespace Go.Proofs.YthpjoddhlkcciaaGreat
open Go Go.RowKit
set_option linter.unusedVariables false
set_option linter.unusedSimpArgs false
set_option maxRecDepth 4000
def anyN (n : Nat) (p : Nat → Bool) : Bool := (List.range n).any p
theorem anyN_at {n i : Nat} {p : Nat → Bool} (hi : i < n) (h : p i = true) : anyN n p = true := List.any_eq_true.2 ⟨i, List.mem_range.2 hi, h⟩
theorem anyN_no {n : Nat} {p : Nat → Bool} (h : ∀ j, j < n → p j = false) : anyN n p = false := by
  unfold anyN; rw [List.any_eq_false]; intro x hx; rw [h x (List.mem_range.1 hx)]; simp
theorem anyN_get {n : Nat} {p : Nat → Bool} (h : anyN n p = false) : ∀ j, j < n → p j = false := fun j hj => by
  unfold anyN at h; rw [List.any_eq_false] at h; have := h j (List.mem_range.2 hj); simpa using this
def headB (h : Int) : Bool := inB h 0 4000003
def valB (v : Int) : Bool := inB v (-1000000000) 1000000000
def usedB (h : Int) : Bool := bif headB h then (h.tdiv 2).tmod 2 == 1 else false
def lockedB (h : Int) : Bool := bif headB h then h.tmod 2 == 1 else false
def verI (h : Int) : Int := if headB h = true then h.tdiv 4 else -1
theorem headB_iff {h : Int} : headB h = true ↔ 0 ≤ h ∧ h ≤ 4000003 := inB_iff
theorem tdiv_nn {a b : Int} (h : 0 ≤ a) : a.tdiv b = a / b := Int.tdiv_eq_ediv_of_nonneg h
theorem tmod_nn {a b : Int} (h : 0 ≤ a) : a.tmod b = a % b := Int.tmod_eq_emod_of_nonneg h
theorem andI_nat {a b : Nat} (h : a < 9223372036854775808) (h2 : b < 9223372036854775808) : andI a b = ((a &&& b : Nat) : Int) := by
  unfold andI
  have e1 : (BitVec.ofInt 64 (a : Int)) = BitVec.ofNat 64 a := by simp
  have e2 : (BitVec.ofInt 64 (b : Int)) = BitVec.ofNat 64 b := by simp
  have e3 : (BitVec.ofNat 64 a &&& BitVec.ofNat 64 b).toNat = a &&& b := by
    rw [BitVec.toNat_and, BitVec.toNat_ofNat, BitVec.toNat_ofNat, Nat.mod_eq_of_lt (by omega), Nat.mod_eq_of_lt (by omega)]
  have h3 : a &&& b ≤ a := Nat.and_le_left
  rw [e1, e2, e3]
  exact IntWalk.i64_in _ (by omega)
theorem land1 (a : Nat) : a &&& 1 = a % 2 := Nat.and_one_is_mod a
theorem land2 (a : Nat) : a &&& 2 = 2 * (a / 2 % 2) := by
  have h1 : (a &&& 2) / 2 = a / 2 % 2 := by rw [Nat.and_div_two]; exact Nat.and_one_is_mod _
  have h2 : ¬ (a &&& 2) % 2 = 1 := fun h => by have := (Nat.and_mod_two_eq_one.1 h).2; omega
  omega
theorem and1 {h : Int} (k : headB h = true) : andI h 1 = h % 2 := by
  obtain ⟨h1, h2⟩ := headB_iff.1 k
  obtain ⟨a, rfl⟩ := Int.eq_ofNat_of_zero_le h1
  rw [show (1 : Int) = ((1 : Nat) : Int) from rfl, andI_nat (by omega) (by decide), land1]; omega
theorem and2 {h : Int} (k : headB h = true) : andI h 2 = 2 * (h / 2 % 2) := by
  obtain ⟨h1, h2⟩ := headB_iff.1 k
  obtain ⟨a, rfl⟩ := Int.eq_ofNat_of_zero_le h1
  rw [show (2 : Int) = ((2 : Nat) : Int) from rfl, andI_nat (by omega) (by decide), land2]; omega
theorem used2 {h : Int} (k : headB h = true) : (andI h 2 == 0) = !usedB h := by
  obtain ⟨h1, h2⟩ := headB_iff.1 k
  unfold usedB
  rw [k, and2 k, tdiv_nn h1, tmod_nn (by omega), Bool.eq_iff_iff]
  simp; omega
theorem locked1 {h : Int} (k : headB h = true) : (andI h 1 != 0) = lockedB h := by
  obtain ⟨h1, h2⟩ := headB_iff.1 k
  unfold lockedB
  rw [k, and1 k, tmod_nn h1, Bool.eq_iff_iff]
  simp; omega
theorem ver4 {h : Int} (k : headB h = true) : verI h = h.tdiv 4 := by rw [verI, if_pos k]
theorem tdiv_in {h d : Int} (h1 : 0 ≤ h) (h2 : h ≤ 4000003) (hd : 0 < d) : InR (h.tdiv d) := by
  rw [tdiv_nn h1]
  have h3 : 0 ≤ h / d := Int.ediv_nonneg h1 (by omega)
  have h4 : h / d ≤ h := Int.ediv_le_self _ h1
  unfold InR; omega
theorem spec_Used_q (h : Int) : Ans Tryz.prog 79 [] [vI h] [] (vB (usedB h)) := by
  refine con_enter Tryz.func79 rfl rfl rfl fun B0 r_ D_ w0 => ?_
  refine T_auto TT_ok rfl ?_
  refine RJ_QO TT_ok (spec_HeadOk_q _) rfl rfl (SVs.imp_refl _) rfl rfl ?_ ?_
  · exact ⟨fun _ => (by decide : (2 : Int) ≠ 0), fun k => tdiv_in (inB_iff.1 k).1 (inB_iff.1 k).2 (by decide), fun _ => (by decide : (2 : Int) ≠ 0), trivial⟩
  · exact T_ansB TT_ok [(2, none)] rfl rfl (rfl)
theorem spec_Locked_q (h : Int) : Ans Tryz.prog 54 [] [vI h] [] (vB (lockedB h)) := by
  refine con_enter Tryz.func54 rfl rfl rfl fun B0 r_ D_ w0 => ?_
  refine T_auto TT_ok rfl ?_
  refine RJ_Q TT_ok (spec_HeadOk_q _) rfl rfl rfl rfl rfl ?_
  exact T_ansB TT_ok [(2, none)] rfl rfl (rfl)
def badCell (x : GCell) : Bool := bif (bif !headB x.head then true else !valB x.value) then true else (bif !usedB x.head then x.value != 0 else false)
def cellsB (xs : List GCell) : Bool := bif ((xs.length : Int) == 6) then !xs.any badCell else false
theorem spec_CellsOk_q (xs : List GCell) : Ans Tryz.prog 120 [] [vL 2 cCell GCell.z xs] [] (vB (cellsB xs)) := by
  refine con_enter Tryz.func120 rfl rfl rfl fun B0 r_ D_ w0 => ?_
  refine T_auto TT_ok rfl ?_
  refine T_condN rfl (fun e => ?_) (fun e => ?_)
  · refine T_auto TT_ok rfl ?_
    exact T_ansB TT_ok [(2, none)] rfl rfl ((by rw [cellsB, beq_eq_false_iff_ne.2 e]; rfl))
  refine T_auto TT_ok rfl ?_
  refine T_loopA (ι := Nat) (fun i => [(3, vI i)]) (fun _ => []) (fun i => i ≤ xs.length ∧ ∀ j, j < i → badCell (xs.getD j GCell.z) = false) (fun i => xs.length - i) 0 [] [] rfl rfl ⟨Nat.zero_le _, fun j hj => absurd hj (Nat.not_lt_zero _)⟩ (by repeat (first | exact trivial | refine And.intro ⟨_, rfl, SV.imp_refl _⟩ ?_)) (by repeat (first | exact trivial | refine And.intro ⟨_, rfl, Ch.imp_refl _⟩ ?_)) ?_
  intro i ⟨h1, h2⟩
  refine T_auto TT_ok rfl ?_
  refine T_condD rfl (fun e2 => ?_) (fun e2 => ?_)
  · have hi : i < xs.length := by omega
    refine T_auto TT_ok rfl ?_
    refine RJ_Q TT_ok (spec_HeadOk_q _) rfl rfl rfl rfl rfl ?_
    refine RJ_Q TT_ok (spec_l1Value_q _) rfl rfl rfl rfl rfl ?_
    refine RJ_Q TT_ok (spec_Used_q _) rfl rfl rfl rfl rfl ?_
    refine T_cond rfl (fun e1 => ?_) (fun e1 => ?_)
    · refine T_auto TT_ok rfl ?_
      exact T_ansB TT_ok [(2, none)] rfl rfl ((by rw [cellsB, any_at hi (p := badCell) e1]; simp))
    · refine T_auto TT_ok rfl ?_
      exact X_inv (i + 1) ⟨hi, before_succ h2 e1⟩ (by omega) (by repeat (first | exact trivial | refine And.intro ⟨_, rfl, SV.imp_refl _⟩ ?_)) (by repeat (first | exact trivial | refine And.intro ⟨_, rfl, Ch.imp_refl _⟩ ?_))
  · refine T_auto TT_ok rfl ?_
    exact T_ansB TT_ok [(2, none)] rfl rfl ((by rw [cellsB, beq_iff_eq.2 e, any_no fun j hj => h2 j (by omega)]; rfl))
theorem badCell_impl (x : GCell) : (bif bif !inB x.head 0 4000003 then true else !inB x.value (-1000000000) 1000000000 then true else bif andI x.head 2 == 0 then x.value != 0 else false) = badCell x := by
  unfold badCell
  cases c : headB x.head with
  | false => rw [show inB x.head 0 4000003 = false from c]; rfl
  | true => rw [used2 c, show inB x.head 0 4000003 = true from c]; rfl
theorem areCells1_q (x : GCell) : Ans Tryz.prog 184 [] [vR (cCell x)] [] (vB (badCell x)) := by
  refine con_enter Tryz.func184 rfl rfl rfl fun B0 r_ D_ w0 => ?_
  refine T_auto TT_ok rfl ?_
  refine RJ_Q TT_ok (impl_isHead_q _) rfl rfl rfl rfl rfl ?_
  refine RJ_Q TT_ok (impl_isValue_q _) rfl rfl rfl rfl rfl ?_
  exact T_ansB TT_ok [(2, none)] rfl rfl (badCell_impl x)
theorem impl_areCells_q (xs : List GCell) (hl : xs.length ≤ 1048576) : Ans Tryz.prog 144 [] [vL 2 cCell GCell.z xs] [] (vB (cellsB xs)) := by
  refine con_enter Tryz.func144 rfl rfl rfl fun B0 r_ D_ w0 => ?_
  refine T_auto TT_ok rfl ?_
  refine RJ_QF TT_ok (containsFuncCell_q xs hl badCell) rfl rfl (SVs.cons (SV.imp_refl _) (SVs.cons (imp_fb (enters_B (by kernel_rfl)) rfl fun args x ⟨n, e1, e2⟩ => by subst e1; subst e2; exact areCells1_q n) rfl)) rfl rfl ?_
  exact T_ansB TT_ok [(2, none)] rfl rfl (rfl)
def badSets (xs : List GSet) (i : Nat) : Bool := bif !setB (xs.getD i GSet.z) then true else bif decide ((i : Int) > 0) then (bif decide ((xs.getD i GSet.z).slot ≤ (xs.getD ((i : Int) - 1).toNat GSet.z).slot) then true else (xs.getD i GSet.z).region != (xs.getD 0 GSet.z).region) else false
def setsB (xs : List GSet) : Bool := !anyN xs.length (badSets xs)
theorem spec_l2Sets_q (xs : List GSet) (hl : xs.length ≤ 1048576) : Ans Tryz.prog 169 [] [vL 5 cSet GSet.z xs] [] (vB (setsB xs)) := by
  refine con_enter Tryz.func169 rfl rfl rfl fun B0 r_ D_ w0 => ?_
  refine T_auto TT_ok rfl ?_
  refine T_loopA (ι := Nat) (fun i => [(3, vI i)]) (fun _ => []) (fun i => i ≤ xs.length ∧ ∀ j, j < i → badSets xs j = false) (fun i => xs.length - i) 0 [] [] rfl rfl ⟨Nat.zero_le _, fun j hj => absurd hj (Nat.not_lt_zero _)⟩ (by repeat (first | exact trivial | refine And.intro ⟨_, rfl, SV.imp_refl _⟩ ?_)) (by repeat (first | exact trivial | refine And.intro ⟨_, rfl, Ch.imp_refl _⟩ ?_)) ?_
  intro i ⟨h1, h2⟩
  refine T_auto TT_ok rfl ?_
  refine T_condD rfl (fun e2 => ?_) (fun e2 => ?_)
  · have hi : i < xs.length := by omega
    refine T_auto TT_ok rfl ?_
    refine T_drawA TT_ok [] rfl rfl fun B0 H0 => ?_
    refine DJ_Q TT_ok (spec_SetOk_q _) rfl rfl rfl rfl rfl rfl ?_
    refine DJ_endA TT_ok rfl ?_
    refine T_cond rfl (fun e1 => ?_) (fun e1 => ?_)
    · refine T_auto TT_ok rfl ?_
      exact T_ansB TT_ok [(2, none)] rfl rfl ((by rw [setsB, anyN_at hi e1]; rfl))
    · refine T_auto TT_ok rfl ?_
      exact X_inv (i + 1) ⟨hi, before_succ h2 e1⟩ (by omega) (by repeat (first | exact trivial | refine And.intro ⟨_, rfl, SV.imp_refl _⟩ ?_)) (by repeat (first | exact trivial | refine And.intro ⟨_, rfl, Ch.imp_refl _⟩ ?_))
  · refine T_auto TT_ok rfl ?_
    exact T_ansB TT_ok [(2, none)] rfl rfl ((by rw [setsB, anyN_no fun j hj => h2 j (by omega)]; rfl))
theorem badSets_impl (xs : List GSet) (i : Nat) : (bif (bif !setB (xs.getD i GSet.z) then true else (xs.getD i GSet.z).region != (xs.getD 0 GSet.z).region) then true else bif decide ((i : Int) > 0) then decide ((xs.getD ((i : Int) - 1).toNat GSet.z).slot ≥ (xs.getD i GSet.z).slot) else false) = badSets xs i := by
  unfold badSets
  cases setB (xs.getD i GSet.z) with
  | false => rfl
  | true =>
    rcases Nat.eq_zero_or_pos i with h | h
    · subst h; simp
    · rw [decide_eq_true (by omega : (i : Int) > 0)]
      simp only [Bool.not_true, Bool.cond_false, Bool.cond_true]
      cases (xs.getD i GSet.z).region != (xs.getD 0 GSet.z).region <;> cases c : decide ((xs.getD i GSet.z).slot ≤ (xs.getD ((i : Int) - 1).toNat GSet.z).slot) <;> simp at c ⊢ <;> omega
theorem impl_areSets_q (xs : List GSet) (hl : xs.length ≤ 1048576) : Ans Tryz.prog 181 [] [vL 5 cSet GSet.z xs] [] (vB (setsB xs)) := by
  refine con_enter Tryz.func181 rfl rfl rfl fun B0 r_ D_ w0 => ?_
  refine T_auto TT_ok rfl ?_
  refine T_loopA (ι := Nat) (fun i => [(7, vI i)]) (fun _ => []) (fun i => i ≤ xs.length ∧ ∀ j, j < i → badSets xs j = false) (fun i => xs.length - i) 0 [] [] rfl rfl ⟨Nat.zero_le _, fun j hj => absurd hj (Nat.not_lt_zero _)⟩ (by repeat (first | exact trivial | refine And.intro ⟨_, rfl, SV.imp_refl _⟩ ?_)) (by repeat (first | exact trivial | refine And.intro ⟨_, rfl, Ch.imp_refl _⟩ ?_)) ?_
  intro i ⟨h1, h2⟩
  refine T_auto TT_ok rfl ?_
  refine T_condD rfl (fun e2 => ?_) (fun e2 => ?_)
  · have hi : i < xs.length := by omega
    refine T_auto TT_ok rfl ?_
    refine T_drawA TT_ok [] rfl rfl fun B0 H0 => ?_
    refine DJ_Q TT_ok (impl_isSet_q _) rfl rfl rfl rfl rfl rfl ?_
    refine DJ_endA TT_ok rfl ?_
    refine T_cond rfl (fun e1 => ?_) (fun e1 => ?_)
    · refine T_auto TT_ok rfl ?_
      exact T_ansB TT_ok [(2, none)] rfl rfl ((by rw [setsB, anyN_at hi ((badSets_impl xs i).symm.trans e1)]; rfl))
    · refine T_auto TT_ok rfl ?_
      exact X_inv (i + 1) ⟨hi, before_succ h2 ((badSets_impl xs i).symm.trans e1)⟩ (by omega) (by repeat (first | exact trivial | refine And.intro ⟨_, rfl, SV.imp_refl _⟩ ?_)) (by repeat (first | exact trivial | refine And.intro ⟨_, rfl, Ch.imp_refl _⟩ ?_))
  · refine T_auto TT_ok rfl ?_
    exact T_ansB TT_ok [(2, none)] rfl rfl ((by rw [setsB, anyN_no fun j hj => h2 j (by omega)]; rfl))
theorem setsB_get {xs : List GSet} (h : setsB xs = true) {i : Nat} (hi : i < xs.length) : setB (xs.getD i GSet.z) = true ∧ (xs.getD i GSet.z).region = (xs.getD 0 GSet.z).region := by
  have h1 := anyN_get (n := xs.length) (p := badSets xs) (by simpa [setsB] using h) i hi
  rw [← badSets_impl] at h1
  cases c : setB (xs.getD i GSet.z) with
  | false => rw [c] at h1; cases h1
  | true =>
    rw [c] at h1
    refine ⟨rfl, ?_⟩
    cases c2 : (xs.getD i GSet.z).region != (xs.getD 0 GSet.z).region with
    | false => simpa using c2
    | true => rw [c2] at h1; cases h1
def recB (r : GRecord) : Bool := bif (bif (bif (bif (bif (bif inB r.kind 1 3 then inB r.tx 1 1000000 else false) then inB r.region 0 5 else false) then decide ((r.sets.length : Int) ≥ 1) else false) then decide ((r.sets.length : Int) ≤ 12) else false) then setsB r.sets else false) then (r.sets.getD 0 GSet.z).region == r.region else false
theorem spec_RecordOk_q (r : GRecord) (hl : r.sets.length ≤ 1048576) : Ans Tryz.prog 121 [] [vR (cRecord r)] [] (vB (recB r)) := by
  refine con_enter Tryz.func121 rfl rfl rfl fun B0 r_ D_ w0 => ?_
  refine T_auto TT_ok rfl ?_
  refine T_drawA TT_ok [] rfl rfl fun B0 H0 => ?_
  refine DJ_Q TT_ok (spec_l1In_q _ _ _) rfl rfl rfl rfl rfl rfl ?_
  refine DJ_Q TT_ok (spec_l1Id_q _) rfl rfl rfl rfl rfl rfl ?_
  refine DJ_Q TT_ok (spec_l1Region_q _) rfl rfl rfl rfl rfl rfl ?_
  refine DJ_Q TT_ok (spec_l2Sets_q _ hl) rfl rfl rfl rfl rfl rfl ?_
  refine DJ_endA TT_ok rfl ?_
  exact T_ansB TT_ok [(2, none)] rfl rfl (rfl)
theorem rec_impl (r : GRecord) : (bif (bif (bif (bif (bif inB r.kind 1 3 then inB r.tx 1 1000000 else false) then inB r.region 0 5 else false) then inB r.sets.length 1 12 else false) then setsB r.sets else false) then !(r.sets.any fun s => s.region != r.region) else false) = recB r := by
  unfold recB
  cases (bif (bif inB r.kind 1 3 then inB r.tx 1 1000000 else false) then inB r.region 0 5 else false) with
  | false => rfl
  | true =>
    simp only [Bool.cond_true]
    unfold inB
    cases c1 : decide ((r.sets.length : Int) ≥ 1) with
    | false => rfl
    | true =>
      simp only [Bool.cond_true]
      cases c2 : decide ((r.sets.length : Int) ≤ 12) with
      | false => rfl
      | true =>
        simp only [Bool.cond_true]
        cases c3 : setsB r.sets with
        | false => rfl
        | true =>
          simp only [Bool.cond_true]
          have hp : 0 < r.sets.length := by simp at c1; omega
          cases c4 : (r.sets.getD 0 GSet.z).region == r.region with
          | true =>
            have e := beq_iff_eq.1 c4
            rw [any_no (z := GSet.z) fun j hj => ?_]; · rfl
            have := (setsB_get c3 hj).2
            simp only [bne_eq_false_iff_eq]; rw [this, e]
          | false =>
            have e := beq_eq_false_iff_ne.1 c4
            rw [any_at (z := GSet.z) hp (by simpa using e)]; rfl
theorem isRecord1_q (s : GSet) (rc : GRecord) : Ans Tryz.prog 182 [] [vR (cSet s), vP (cRecord rc)] [] (vB (s.region != rc.region)) := by
  refine con_enter Tryz.func182 rfl rfl rfl fun B0 r_ D_ w0 => ?_
  refine T_auto TT_ok rfl ?_
  exact T_ansB TT_ok [(3, none)] rfl rfl (rfl)
theorem impl_isRecord_q (rc : GRecord) (hl : rc.sets.length ≤ 1048576) : Ans Tryz.prog 142 [] [vR (cRecord rc)] [] (vB (recB rc)) := by
  refine con_enter Tryz.func142 rfl rfl rfl fun B0 r_ D_ w0 => ?_
  refine T_auto TT_ok rfl ?_
  refine RJ_Q TT_ok (impl_within_q _ _ _) rfl rfl rfl rfl rfl ?_
  refine RJ_Q TT_ok (impl_isId_q _) rfl rfl rfl rfl rfl ?_
  refine RJ_Q TT_ok (impl_isRegion_q _) rfl rfl rfl rfl rfl ?_
  refine RJ_Q TT_ok (sizeSet_q _) rfl rfl rfl rfl rfl ?_
  refine RJ_Q TT_ok (impl_within_q _ _ _) rfl rfl rfl rfl rfl ?_
  refine RJ_Q TT_ok (impl_areSets_q _ hl) rfl rfl rfl rfl rfl ?_
  refine RJ_QF TT_ok (containsFuncSet_q rc.sets hl fun s => s.region != rc.region) rfl rfl (SVs.cons (SV.imp_refl _) (SVs.cons (imp_fb (enters_B (by kernel_rfl)) rfl fun args x ⟨n, e1, e2⟩ => by subst e1; subst e2; exact isRecord1_q n rc) rfl)) rfl rfl ?_
  exact T_ansB TT_ok [(2, none)] rfl rfl (rec_impl rc)
def badCl (xs : List Int) (i : Nat) : Bool := bif !inB (xs.getD i 0) 1 1000000 then true else bif decide ((i : Int) > 0) then decide (xs.getD i 0 ≤ xs.getD ((i : Int) - 1).toNat 0) else false
def risesB (xs : List Int) : Bool := !anyN xs.length (badCl xs)
theorem spec_l6Rises_q (xs : List Int) (hl : xs.length ≤ 1048576) : Ans Tryz.prog 118 [] [vL 1 cInt 0 xs] [] (vB (risesB xs)) := by
  refine con_enter Tryz.func118 rfl rfl rfl fun B0 r_ D_ w0 => ?_
  refine T_auto TT_ok rfl ?_
  refine T_loopA (ι := Nat) (fun i => [(3, vI i)]) (fun _ => []) (fun i => i ≤ xs.length ∧ ∀ j, j < i → badCl xs j = false) (fun i => xs.length - i) 0 [] [] rfl rfl ⟨Nat.zero_le _, fun j hj => absurd hj (Nat.not_lt_zero _)⟩ (by repeat (first | exact trivial | refine And.intro ⟨_, rfl, SV.imp_refl _⟩ ?_)) (by repeat (first | exact trivial | refine And.intro ⟨_, rfl, Ch.imp_refl _⟩ ?_)) ?_
  intro i ⟨h1, h2⟩
  refine T_auto TT_ok rfl ?_
  refine T_condD rfl (fun e2 => ?_) (fun e2 => ?_)
  · have hi : i < xs.length := by omega
    refine T_auto TT_ok rfl ?_
    refine T_drawA TT_ok [] rfl rfl fun B0 H0 => ?_
    refine DJ_Q TT_ok (spec_l1Id_q _) rfl rfl rfl rfl rfl rfl ?_
    refine DJ_endA TT_ok rfl ?_
    refine T_cond rfl (fun e1 => ?_) (fun e1 => ?_)
    · refine T_auto TT_ok rfl ?_
      exact T_ansB TT_ok [(2, none)] rfl rfl ((by rw [risesB, anyN_at (p := badCl xs) hi e1]; rfl))
    · refine T_auto TT_ok rfl ?_
      exact X_inv (i + 1) ⟨hi, before_succ h2 e1⟩ (by omega) (by repeat (first | exact trivial | refine And.intro ⟨_, rfl, SV.imp_refl _⟩ ?_)) (by repeat (first | exact trivial | refine And.intro ⟨_, rfl, Ch.imp_refl _⟩ ?_))
  · refine T_auto TT_ok rfl ?_
    exact T_ansB TT_ok [(2, none)] rfl rfl ((by rw [risesB, anyN_no fun j hj => h2 j (by omega)]; rfl))
def badCopy (xs : List GCopy) (i : Nat) : Bool := bif (bif !inB (xs.getD i GCopy.z).region 0 5 then true else !cellsB (xs.getD i GCopy.z).cells) then true else bif decide ((i : Int) > 0) then decide ((xs.getD i GCopy.z).region ≤ (xs.getD ((i : Int) - 1).toNat GCopy.z).region) else false
def MachOk (m : GMachine) : Prop := (m.copies.length ≤ 6 ∧ m.log.length ≤ 200 ∧ m.cleared.length ≤ 60) ∧ risesB m.cleared = true ∧ (∀ j, j < m.copies.length → badCopy m.copies j = false) ∧ ∀ j, j < m.log.length → recB (m.log.getD j GRecord.z) = true
theorem spec_MachineOk_q (m : GMachine) (hb : D.bds bigN (cMachine m)) : Ans Tryz.prog 69 [] [vR (cMachine m)] [] (vB (dec (MachOk m))) := by
  have b1 : m.copies.length ≤ 1048576 := hb.2.1.1
  have b2 : m.log.length ≤ 1048576 := hb.2.2.1.1
  have b3 : m.cleared.length ≤ 1048576 := hb.2.2.2.1.1
  refine con_enter Tryz.func69 rfl rfl rfl fun B0 r_ D_ w0 => ?_
  refine T_auto TT_ok rfl ?_
  refine RJ_Q TT_ok (spec_l6Rises_q _ b3) rfl rfl rfl rfl rfl ?_
  refine T_cond rfl (fun e => ?_) (fun e => ?_)
  · refine T_auto TT_ok rfl ?_
    exact T_ansB TT_ok [(2, none)] rfl rfl ((dec_false fun h => by have h1 := h.1; simp [h.2.1] at e; omega).symm)
  have hH : (m.copies.length ≤ 6 ∧ m.log.length ≤ 200 ∧ m.cleared.length ≤ 60) ∧ risesB m.cleared = true := by
    simp at e; exact ⟨by omega, e.2⟩
  clear e
  refine T_auto TT_ok rfl ?_
  refine T_loopA (ι := Nat) (fun i => [(3, vI i)]) (fun _ => []) (fun i => i ≤ m.copies.length ∧ ∀ j, j < i → badCopy m.copies j = false) (fun i => m.copies.length - i) 0 [] [] rfl rfl ⟨Nat.zero_le _, fun j hj => absurd hj (Nat.not_lt_zero _)⟩ (by repeat (first | exact trivial | refine And.intro ⟨_, rfl, SV.imp_refl _⟩ ?_)) (by repeat (first | exact trivial | refine And.intro ⟨_, rfl, Ch.imp_refl _⟩ ?_)) ?_
  intro i ⟨h1, h2⟩
  refine T_auto TT_ok rfl ?_
  refine T_condD rfl (fun e2 => ?_) (fun e2 => ?_)
  · have hi : i < m.copies.length := by omega
    refine T_auto TT_ok rfl ?_
    refine T_drawA TT_ok [] rfl rfl fun B0 H0 => ?_
    refine DJ_Q TT_ok (spec_l1Region_q _) rfl rfl rfl rfl rfl rfl ?_
    refine DJ_Q TT_ok (spec_CellsOk_q _) rfl rfl rfl rfl rfl rfl ?_
    refine DJ_endA TT_ok rfl ?_
    refine T_cond rfl (fun e1 => ?_) (fun e1 => ?_)
    · refine T_auto TT_ok rfl ?_
      exact T_ansB TT_ok [(2, none)] rfl rfl ((dec_false fun h => by have := (h.2.2.1 i hi).symm.trans e1; cases this).symm)
    · refine T_auto TT_ok rfl ?_
      exact X_inv (i + 1) ⟨hi, before_succ h2 e1⟩ (by omega) (by repeat (first | exact trivial | refine And.intro ⟨_, rfl, SV.imp_refl _⟩ ?_)) (by repeat (first | exact trivial | refine And.intro ⟨_, rfl, Ch.imp_refl _⟩ ?_))
  have hi : i = m.copies.length := by omega
  subst hi
  refine T_auto TT_ok rfl ?_
  refine T_loopA (ι := Nat) (fun i => [(4, vI i)]) (fun _ => []) (fun i => i ≤ m.log.length ∧ ∀ j, j < i → recB (m.log.getD j GRecord.z) = true) (fun i => m.log.length - i) 0 [] [] rfl rfl ⟨Nat.zero_le _, fun j hj => absurd hj (Nat.not_lt_zero _)⟩ (by repeat (first | exact trivial | refine And.intro ⟨_, rfl, SV.imp_refl _⟩ ?_)) (by repeat (first | exact trivial | refine And.intro ⟨_, rfl, Ch.imp_refl _⟩ ?_)) ?_
  intro i ⟨h3, h4⟩
  refine T_auto TT_ok rfl ?_
  refine T_condD rfl (fun e3 => ?_) (fun e3 => ?_)
  · have hi : i < m.log.length := by omega
    refine T_auto TT_ok rfl ?_
    refine RJ_Q TT_ok (spec_RecordOk_q _ (hb.2.2.1.2 i hi).2.2.2.1.1) rfl rfl rfl rfl rfl ?_
    refine T_condX rfl (fun e1 => ?_) (fun e1 => ?_)
    · refine T_auto TT_ok rfl ?_
      exact T_ansB TT_ok [(2, none)] rfl rfl ((dec_false fun h => by have := (h.2.2.2 i hi).symm.trans e1; cases this).symm)
    · refine T_auto TT_ok rfl ?_
      exact X_inv (i + 1) ⟨hi, before_succ h4 e1⟩ (by omega) (by repeat (first | exact trivial | refine And.intro ⟨_, rfl, SV.imp_refl _⟩ ?_)) (by repeat (first | exact trivial | refine And.intro ⟨_, rfl, Ch.imp_refl _⟩ ?_))
  · refine T_auto TT_ok rfl ?_
    exact T_ansB TT_ok [(2, none)] rfl rfl ((dec_true ⟨hH.1, hH.2, h2, fun j hj => h4 j (by omega)⟩).symm)
theorem isMachineOk1_q (r : GRecord) (hl : r.sets.length ≤ 1048576) : Ans Tryz.prog 141 [] [vR (cRecord r)] [] (vB (!recB r)) := by
  refine con_enter Tryz.func141 rfl rfl rfl fun B0 r_ D_ w0 => ?_
  refine T_auto TT_ok rfl ?_
  refine RJ_Q TT_ok (impl_isRecord_q _ hl) rfl rfl rfl rfl rfl ?_
  exact T_ansB TT_ok [(2, none)] rfl rfl (rfl)
theorem impl_isMachineOk_q (m : GMachine) (hb : D.bds bigN (cMachine m)) : Ans Tryz.prog 89 [] [vR (cMachine m)] [] (vB (dec (MachOk m))) := by
  have b1 : m.copies.length ≤ 1048576 := hb.2.1.1
  have b2 : m.log.length ≤ 1048576 := hb.2.2.1.1
  have b3 : m.cleared.length ≤ 1048576 := hb.2.2.2.1.1
  refine con_enter Tryz.func89 rfl rfl rfl fun B0 r_ D_ w0 => ?_
  refine T_auto TT_ok rfl ?_
  refine RJ_QF TT_ok (containsFuncRecord_p m.log b2 (fun r => r.sets.length ≤ 1048576) (fun i hi => (hb.2.2.1.2 i hi).2.2.2.1.1) fun r => !recB r) rfl rfl (SVs.cons (SV.imp_refl _) (SVs.cons (imp_fb (enters_B (by kernel_rfl)) rfl fun args x ⟨n, hn, e1, e2⟩ => by subst e1; subst e2; exact isMachineOk1_q n hn) rfl)) rfl rfl ?_
  refine T_cond rfl (fun e => ?_) (fun e => ?_)
  · refine T_auto TT_ok rfl ?_
    exact T_ansB TT_ok [(2, none)] rfl rfl ((dec_false fun h => by have h1 := h.1; rw [any_no (z := GRecord.z) fun j hj => by rw [h.2.2.2 j hj]; rfl] at e; simp at e; omega).symm)
  have hH : (m.copies.length ≤ 6 ∧ m.log.length ≤ 200 ∧ m.cleared.length ≤ 60) ∧ (m.log.any fun r => !recB r) = false := by
    cases c : m.log.any fun r => !recB r with
    | true => rw [c] at e; simp at e
    | false => rw [c] at e; simp at e; exact ⟨by omega, rfl⟩
  have hR : ∀ j, j < m.log.length → recB (m.log.getD j GRecord.z) = true := fun j hj => by simpa using any_get (z := GRecord.z) hH.2 j hj
  clear e
  refine T_auto TT_ok rfl ?_
  refine T_loopA (ι := Nat) (fun i => [(31, vI i)]) (fun _ => []) (fun i => i ≤ m.copies.length ∧ ∀ j, j < i → badCopy m.copies j = false) (fun i => m.copies.length - i) 0 [] [] rfl rfl ⟨Nat.zero_le _, fun j hj => absurd hj (Nat.not_lt_zero _)⟩ (by repeat (first | exact trivial | refine And.intro ⟨_, rfl, SV.imp_refl _⟩ ?_)) (by repeat (first | exact trivial | refine And.intro ⟨_, rfl, Ch.imp_refl _⟩ ?_)) ?_
  intro i ⟨h1, h2⟩
  refine T_auto TT_ok rfl ?_
  refine T_condD rfl (fun e2 => ?_) (fun e2 => ?_)
  · have hi : i < m.copies.length := by omega
    refine T_auto TT_ok rfl ?_
    refine T_drawA TT_ok [] rfl rfl fun B0 H0 => ?_
    refine DJ_Q TT_ok (impl_isRegion_q _) rfl rfl rfl rfl rfl rfl ?_
    refine DJ_Q TT_ok (impl_areCells_q _ (hb.2.1.2 i hi).2.1.1) rfl rfl rfl rfl rfl rfl ?_
    refine DJ_endA TT_ok rfl ?_
    refine T_cond rfl (fun e1 => ?_) (fun e1 => ?_)
    · refine T_auto TT_ok rfl ?_
      exact T_ansB TT_ok [(2, none)] rfl rfl ((dec_false fun h => by have := (h.2.2.1 i hi).symm.trans e1; cases this).symm)
    · refine T_auto TT_ok rfl ?_
      exact X_inv (i + 1) ⟨hi, before_succ h2 e1⟩ (by omega) (by repeat (first | exact trivial | refine And.intro ⟨_, rfl, SV.imp_refl _⟩ ?_)) (by repeat (first | exact trivial | refine And.intro ⟨_, rfl, Ch.imp_refl _⟩ ?_))
  have hi : i = m.copies.length := by omega
  subst hi
  refine T_auto TT_ok rfl ?_
  refine T_loopA (ι := Nat) (fun i => [(66, vI i)]) (fun _ => []) (fun i => i ≤ m.cleared.length ∧ ∀ j, j < i → badCl m.cleared j = false) (fun i => m.cleared.length - i) 0 [] [] rfl rfl ⟨Nat.zero_le _, fun j hj => absurd hj (Nat.not_lt_zero _)⟩ (by repeat (first | exact trivial | refine And.intro ⟨_, rfl, SV.imp_refl _⟩ ?_)) (by repeat (first | exact trivial | refine And.intro ⟨_, rfl, Ch.imp_refl _⟩ ?_)) ?_
  intro i ⟨h3, h4⟩
  refine T_auto TT_ok rfl ?_
  refine T_condD rfl (fun e3 => ?_) (fun e3 => ?_)
  · have hi : i < m.cleared.length := by omega
    refine T_auto TT_ok rfl ?_
    refine RJ_Q TT_ok (impl_isId_q _) rfl rfl rfl rfl rfl ?_
    refine T_cond rfl (fun e1 => ?_) (fun e1 => ?_)
    · refine T_auto TT_ok rfl ?_
      exact T_ansB TT_ok [(2, none)] rfl rfl ((dec_false fun h => by have h1 := h.2.1; rw [risesB, anyN_at (p := badCl m.cleared) hi e1] at h1; cases h1).symm)
    · refine T_auto TT_ok rfl ?_
      exact X_inv (i + 1) ⟨hi, before_succ h4 e1⟩ (by omega) (by repeat (first | exact trivial | refine And.intro ⟨_, rfl, SV.imp_refl _⟩ ?_)) (by repeat (first | exact trivial | refine And.intro ⟨_, rfl, Ch.imp_refl _⟩ ?_))
  · refine T_auto TT_ok rfl ?_
    exact T_ansB TT_ok [(2, none)] rfl rfl ((dec_true ⟨hH.1, by rw [risesB, anyN_no fun j hj => h4 j (by omega)]; rfl, h2, hR⟩).symm)
def badPl (l : List Int) (k : Nat) : Bool := bif !inB (l.getD k 0) 0 7 then true else decide (l.getD k 0 ∈ l.take k)
def plOk (p : GPlace) : Prop := (1 ≤ p.machines.length ∧ p.machines.length ≤ 3) ∧ ∀ k, k < p.machines.length → badPl p.machines k = false
def PlOk (ps : List GPlace) : Prop := (1 ≤ ps.length ∧ ps.length ≤ 6) ∧ ∀ r, r < ps.length → plOk (ps.getD r GPlace.z)
theorem imp_take {P : Program} {α : Type} {sz k : Nat} {enc : α → List D} {z : α} {xs : List α} (hk : k ≤ xs.length) : (SV.a (.s .r sz k fun i => enc (xs.getD i z))).imp P (vL sz enc z (xs.take k)) := by
  have h : (SV.a (.s .r sz k fun i => enc (xs.getD i z))).imp P (.a (.s .r sz k fun i => enc ((xs.take k).getD i z))) := SV.imp_s fun i hi => by rw [getD_take (by rw [List.length_take]; omega)]
  have e : (xs.take k).length = k := by rw [List.length_take]; omega
  show SV.imp P _ (.a (.s .r sz (xs.take k).length _))
  rw [e]; exact h
theorem l3Has_take (l : List Int) (k : Nat) (hk : k ≤ l.length) (hl : l.length ≤ 1048576) (n : Int) : Ans Tryz.prog 117 [] [.a (.s .r 1 k fun i => cInt (l.getD i 0)), vI n] [] (vB (decide (n ∈ l.take k))) :=
  (l3Has_q (l.take k) (by rw [List.length_take]; omega) n).wkA ⟨_, _, rfl, imp_take hk, SVs.imp_refl _⟩
theorem contains_take (l : List Int) (k : Nat) (hk : k ≤ l.length) (hl : l.length ≤ 1048576) (n : Int) : Ans Tryz.prog 138 [] [.a (.s .r 1 k fun i => cInt (l.getD i 0)), vI n] [] (vB (decide (n ∈ l.take k))) :=
  (contains_Int_q (l.take k) (by rw [List.length_take]; omega) n).wkA ⟨_, _, rfl, imp_take hk, SVs.imp_refl _⟩
theorem spec_PlacesOk_q (ps : List GPlace) : Ans Tryz.prog 68 [] [vL 1 cPlace GPlace.z ps] [] (vB (dec (PlOk ps))) := by
  refine con_enter Tryz.func68 rfl rfl rfl fun B0 r_ D_ w0 => ?_
  refine T_auto TT_ok rfl ?_
  refine T_cond rfl (fun e => ?_) (fun e => ?_)
  · refine T_auto TT_ok rfl ?_
    exact T_ansB TT_ok [(2, none)] rfl rfl ((dec_false fun h => by have := h.1; simp at e; omega).symm)
  have hH : 1 ≤ ps.length ∧ ps.length ≤ 6 := by simp at e; omega
  clear e
  refine T_auto TT_ok rfl ?_
  refine T_loopA (ι := Nat) (fun i => [(3, vI i)]) (fun _ => []) (fun i => i ≤ ps.length ∧ ∀ j, j < i → plOk (ps.getD j GPlace.z)) (fun i => ps.length - i) 0 [] [] rfl rfl ⟨Nat.zero_le _, fun j hj => absurd hj (Nat.not_lt_zero _)⟩ (by repeat (first | exact trivial | refine And.intro ⟨_, rfl, SV.imp_refl _⟩ ?_)) (by repeat (first | exact trivial | refine And.intro ⟨_, rfl, Ch.imp_refl _⟩ ?_)) ?_
  intro i ⟨h1, h2⟩
  refine T_auto TT_ok rfl ?_
  refine T_condD rfl (fun e2 => ?_) (fun e2 => ?_)
  · have hi : i < ps.length := by omega
    refine T_auto TT_ok rfl ?_
    refine T_cond rfl (fun e => ?_) (fun e => ?_)
    · refine T_auto TT_ok rfl ?_
      exact T_ansB TT_ok [(2, none)] rfl rfl ((dec_false fun h => by have := (h.2 i hi).1; simp at e this; omega).symm)
    have hp : 1 ≤ (ps.getD i GPlace.z).machines.length ∧ (ps.getD i GPlace.z).machines.length ≤ 3 := by simp at e ⊢; omega
    clear e
    refine T_auto TT_ok rfl ?_
    refine T_loopA (ι := Nat) (fun k => [(5, vI k)]) (fun _ => []) (fun k => k ≤ (ps.getD i GPlace.z).machines.length ∧ ∀ j, j < k → badPl (ps.getD i GPlace.z).machines j = false) (fun k => (ps.getD i GPlace.z).machines.length - k) 0 [] [] rfl rfl ⟨Nat.zero_le _, fun j hj => absurd hj (Nat.not_lt_zero _)⟩ (by repeat (first | exact trivial | refine And.intro ⟨_, rfl, SV.imp_refl _⟩ ?_)) (by repeat (first | exact trivial | refine And.intro ⟨_, rfl, Ch.imp_refl _⟩ ?_)) ?_
    intro k ⟨h3, h4⟩
    refine T_auto TT_ok rfl ?_
    refine T_condD rfl (fun e3 => ?_) (fun e3 => ?_)
    · have hk : k < (ps.getD i GPlace.z).machines.length := by simp at e3 ⊢; omega
      refine T_auto TT_ok rfl ?_
      refine T_drawA TT_ok [] rfl rfl fun B0 H0 => ?_
      refine DJ_Q TT_ok (spec_l1Machine_q _) rfl rfl rfl rfl rfl rfl ?_
      refine DJ_Q TT_ok (l3Has_take (ps.getD i GPlace.z).machines k h3 (by omega) _) rfl rfl rfl rfl rfl rfl ?_
      refine DJ_endA TT_ok rfl ?_
      refine T_cond rfl (fun e1 => ?_) (fun e1 => ?_)
      · refine T_auto TT_ok rfl ?_
        exact T_ansB TT_ok [(2, none)] rfl rfl ((dec_false fun h => by have := ((h.2 i hi).2 k hk).symm.trans e1; cases this).symm)
      · refine T_auto TT_ok rfl ?_
        exact X_inv (k + 1) ⟨hk, before_succ h4 e1⟩ (by omega) (by repeat (first | exact trivial | refine And.intro ⟨_, rfl, SV.imp_refl _⟩ ?_)) (by repeat (first | exact trivial | refine And.intro ⟨_, rfl, Ch.imp_refl _⟩ ?_))
    · refine T_auto TT_ok rfl ?_
      exact X_inv (i + 1) ⟨hi, before_succ h2 ⟨hp, fun j hj => h4 j (by simp at e3 hj; omega)⟩⟩ (by omega) (by repeat (first | exact trivial | refine And.intro ⟨_, rfl, SV.imp_refl _⟩ ?_)) (by repeat (first | exact trivial | refine And.intro ⟨_, rfl, Ch.imp_refl _⟩ ?_))
  · refine T_auto TT_ok rfl ?_
    exact T_ansB TT_ok [(2, none)] rfl rfl ((dec_true ⟨hH, fun j hj => h2 j (by omega)⟩).symm)
theorem impl_arePlaces_q (ps : List GPlace) (hl : ps.length ≤ 1048576) (hm : ∀ i, i < ps.length → (ps.getD i GPlace.z).machines.length ≤ 1048576) : Ans Tryz.prog 86 [] [vL 1 cPlace GPlace.z ps] [] (vB (dec (PlOk ps))) := by
  refine con_enter Tryz.func86 rfl rfl rfl fun B0 r_ D_ w0 => ?_
  refine T_auto TT_ok rfl ?_
  refine T_loopA (ι := Nat) (fun i => [(9, vI i)]) (fun _ => []) (fun i => i ≤ ps.length ∧ ∀ j, j < i → plOk (ps.getD j GPlace.z)) (fun i => ps.length - i) 0 [] [] rfl rfl ⟨Nat.zero_le _, fun j hj => absurd hj (Nat.not_lt_zero _)⟩ (by repeat (first | exact trivial | refine And.intro ⟨_, rfl, SV.imp_refl _⟩ ?_)) (by repeat (first | exact trivial | refine And.intro ⟨_, rfl, Ch.imp_refl _⟩ ?_)) ?_
  intro i ⟨h1, h2⟩
  refine T_auto TT_ok rfl ?_
  refine T_condD rfl (fun e2 => ?_) (fun e2 => ?_)
  · have hi : i < ps.length := by omega
    have hml := hm i hi
    refine T_auto TT_ok rfl ?_
    refine RJ_Q TT_ok (sizeInt64_q _) rfl rfl rfl rfl rfl ?_
    refine RJ_Q TT_ok (impl_within_q _ _ _) rfl rfl rfl rfl rfl ?_
    refine T_condX rfl (fun e => ?_) (fun e => ?_)
    · refine T_auto TT_ok rfl ?_
      exact T_ansB TT_ok [(2, none)] rfl rfl ((dec_false fun h => by have := (h.2 i hi).1; exact inB_not.1 e ⟨by simp at this ⊢; omega, by simp at this ⊢; omega⟩).symm)
    have hp : 1 ≤ (ps.getD i GPlace.z).machines.length ∧ (ps.getD i GPlace.z).machines.length ≤ 3 := by have := inB_iff.1 e; simp at this ⊢; omega
    clear e
    refine T_auto TT_ok rfl ?_
    refine T_loopA (ι := Nat) (fun k => [(21, vI k)]) (fun _ => []) (fun k => k ≤ (ps.getD i GPlace.z).machines.length ∧ ∀ j, j < k → badPl (ps.getD i GPlace.z).machines j = false) (fun k => (ps.getD i GPlace.z).machines.length - k) 0 [] [] rfl rfl ⟨Nat.zero_le _, fun j hj => absurd hj (Nat.not_lt_zero _)⟩ (by repeat (first | exact trivial | refine And.intro ⟨_, rfl, SV.imp_refl _⟩ ?_)) (by repeat (first | exact trivial | refine And.intro ⟨_, rfl, Ch.imp_refl _⟩ ?_)) ?_
    intro k ⟨h3, h4⟩
    refine T_auto TT_ok rfl ?_
    refine T_condD rfl (fun e3 => ?_) (fun e3 => ?_)
    · have hk : k < (ps.getD i GPlace.z).machines.length := by simp at e3 ⊢; omega
      refine T_auto TT_ok rfl ?_
      refine RJ_Q TT_ok (impl_isMachine_q _) rfl rfl rfl rfl rfl ?_
      refine RJ_Q TT_ok (contains_take (ps.getD i GPlace.z).machines k h3 (by omega) _) rfl rfl rfl rfl rfl ?_
      refine T_cond rfl (fun e1 => ?_) (fun e1 => ?_)
      · refine T_auto TT_ok rfl ?_
        exact T_ansB TT_ok [(2, none)] rfl rfl ((dec_false fun h => by have := ((h.2 i hi).2 k hk).symm.trans e1; cases this).symm)
      · refine T_auto TT_ok rfl ?_
        exact X_inv (k + 1) ⟨hk, before_succ h4 e1⟩ (by omega) (by repeat (first | exact trivial | refine And.intro ⟨_, rfl, SV.imp_refl _⟩ ?_)) (by repeat (first | exact trivial | refine And.intro ⟨_, rfl, Ch.imp_refl _⟩ ?_))
    · refine T_auto TT_ok rfl ?_
      exact X_inv (i + 1) ⟨hi, before_succ h2 ⟨hp, fun j hj => h4 j (by simp at e3 hj; omega)⟩⟩ (by omega) (by repeat (first | exact trivial | refine And.intro ⟨_, rfl, SV.imp_refl _⟩ ?_)) (by repeat (first | exact trivial | refine And.intro ⟨_, rfl, Ch.imp_refl _⟩ ?_))
  · have hi : i = ps.length := by omega
    subst hi
    refine T_auto TT_ok rfl ?_
    refine RJ_Q TT_ok (sizePlace_q _) rfl rfl rfl rfl rfl ?_
    refine RJ_Q TT_ok (impl_within_q _ _ _) rfl rfl rfl rfl rfl ?_
    exact T_ansB TT_ok [(2, none)] rfl rfl ((by rw [Bool.eq_iff_iff, inB_iff, dec_iff]; exact ⟨fun h => ⟨by omega, h2⟩, fun h => by have := h.1; omega⟩))
end Go.Proofs.YthpjoddhlkcciaaGreat
namespace Go.Proofs.YthpjoddhlkcciaaGreat
open Go Go.RowKit
set_option linter.unusedVariables false
set_option linter.unusedSimpArgs false
section
set_option maxRecDepth 4000
def rising {α : Type} (c : α → Int) (z : α) (xs : List α) : Prop := ∀ a b, a ≤ b → b < xs.length → c (xs.getD b z) < 0 → c (xs.getD a z) < 0
def cutAt {α : Type} (c : α → Int) (z : α) (xs : List α) (i : Nat) : Prop := i ≤ xs.length ∧ (∀ a, a < i → c (xs.getD a z) < 0) ∧ ∀ a, i ≤ a → a < xs.length → ¬ c (xs.getD a z) < 0
end
section
set_option maxRecDepth 4000
def atCell (r s : Int) (x : GSet) : Bool := bif x.region == r then x.slot == s else false
def noSet (t : GTx) (n : GNote) : Bool := decide (idxI (atCell n.region n.slot) t.sets < 0)
end
end Go.Proofs.YthpjoddhlkcciaaGreat
namespace Go.Proofs.YthpjoddhlkcciaaGreat
open Go Go.RowKit
set_option linter.unusedVariables false
set_option linter.unusedSimpArgs false
set_option maxRecDepth 4000
theorem bd_at {α : Type} {N sz : Nat} {enc : α → List D} {z : α} {xs : List α} (h : D.bd N (dL sz enc z xs)) (hz : D.bds N (enc z)) (i : Nat) : D.bds N (enc (xs.getD i z)) := by
  by_cases c : i < xs.length
  · exact h.2 i c
  · rw [List.getD_eq_getElem?_getD, List.getElem?_eq_none (by omega)]; exact hz
def atB (r : Int) (x : GCopy) : Bool := x.region == r
def hasB (m : GMachine) (r : Int) : Bool := m.copies.any (atB r)
theorem idx_lt {α : Type} (p : α → Bool) (z : α) (xs : List α) : decide (idxI p xs < 0) = !xs.any p := by
  rcases idxI_cases p z xs with ⟨h1, h2⟩ | ⟨i, h1, h2, h3, h4⟩
  · rw [any_no h2, h1]; rfl
  · rw [any_at h1 h4, h2]; simp
theorem l6At_q (m : GMachine) (hl : m.copies.length ≤ 1048576) (r0 : Int) : Ans Tryz.prog 70 [] [vR (cMachine m), vI r0] [] (vI (idxI (atB r0) m.copies)) := by
  refine con_enter Tryz.func70 rfl rfl rfl fun B0 r_ D_ w0 => ?_
  refine T_auto TT_ok rfl ?_
  refine T_loopA (ι := Nat) (fun i => [(5, vI i)]) (fun _ => []) (fun i => i ≤ m.copies.length ∧ ∀ j, j < i → atB r0 (m.copies.getD j GCopy.z) = false) (fun i => m.copies.length - i) 0 [] [] rfl rfl ⟨Nat.zero_le _, fun j hj => absurd hj (Nat.not_lt_zero _)⟩ (by repeat (first | exact trivial | refine And.intro ⟨_, rfl, SV.imp_refl _⟩ ?_)) (by repeat (first | exact trivial | refine And.intro ⟨_, rfl, Ch.imp_refl _⟩ ?_)) ?_
  intro i ⟨h1, h2⟩
  refine T_auto TT_ok rfl ?_
  refine T_condD rfl (fun e => ?_) (fun e => ?_)
  · have hi : i < m.copies.length := by omega
    refine T_auto TT_ok rfl ?_
    refine T_cond rfl (fun e2 => ?_) (fun e2 => ?_)
    · refine T_auto TT_ok rfl ?_
      exact T_ansI TT_ok [(4, none)] rfl rfl ((idxI_at (p := atB r0) hi h2 e2).symm)
    · refine T_auto TT_ok rfl ?_
      exact X_inv (i + 1) ⟨hi, before_succ h2 e2⟩ (by omega) (by repeat (first | exact trivial | refine And.intro ⟨_, rfl, SV.imp_refl _⟩ ?_)) (by repeat (first | exact trivial | refine And.intro ⟨_, rfl, Ch.imp_refl _⟩ ?_))
  · refine T_auto TT_ok rfl ?_
    exact T_ansI TT_ok [(4, none)] rfl rfl ((idxI_no fun j hj => h2 j (by omega)).symm)
theorem cells_none_q (m : GMachine) (hl : m.copies.length ≤ 1048576) (r0 : Int) (hn : hasB m r0 = false) : Ans Tryz.prog 56 [] [vP (cMachine m), vI r0] [] (.a (.v (.slice none 0 0))) := by
  refine con_enter Tryz.func56 rfl rfl rfl fun B0 r_ D_ w0 => ?_
  refine T_auto TT_ok rfl ?_
  refine T_loopA (ι := Nat) (fun i => [(12, vI i)]) (fun _ => []) (fun i => i ≤ m.copies.length) (fun i => m.copies.length - i) 0 [] [] rfl rfl (Nat.zero_le _) (by repeat (first | exact trivial | refine And.intro ⟨_, rfl, SV.imp_refl _⟩ ?_)) (by repeat (first | exact trivial | refine And.intro ⟨_, rfl, Ch.imp_refl _⟩ ?_)) ?_
  intro i h1
  refine T_auto TT_ok rfl ?_
  refine T_condD rfl (fun e => ?_) (fun e => ?_)
  · have hi : i < m.copies.length := by omega
    refine T_auto TT_ok rfl ?_
    refine T_cond rfl (fun e2 => ?_) (fun e2 => ?_)
    · have := (any_get (z := GCopy.z) hn i hi).symm.trans e2
      cases this
    · refine T_auto TT_ok rfl ?_
      exact X_inv (i + 1) hi (by omega) (by repeat (first | exact trivial | refine And.intro ⟨_, rfl, SV.imp_refl _⟩ ?_)) (by repeat (first | exact trivial | refine And.intro ⟨_, rfl, Ch.imp_refl _⟩ ?_))
  · refine T_auto TT_ok rfl ?_
    exact T_ans TT_ok [(4, none)] rfl rfl (rfl)
theorem cells_some_q (m : GMachine) (hl : m.copies.length ≤ 1048576) (r0 : Int) (i0 : Nat) (hi0 : i0 < m.copies.length) (hb : ∀ j, j < i0 → atB r0 (m.copies.getD j GCopy.z) = false) (ha : atB r0 (m.copies.getD i0 GCopy.z) = true) : Ans Tryz.prog 56 [] [vP (cMachine m), vI r0] [] (vL 2 cCell GCell.z (m.copies.getD i0 GCopy.z).cells) := by
  refine con_enter Tryz.func56 rfl rfl rfl fun B0 r_ D_ w0 => ?_
  refine T_auto TT_ok rfl ?_
  refine T_loopA (ι := Nat) (fun i => [(12, vI i)]) (fun _ => []) (fun i => i ≤ i0) (fun i => i0 - i) 0 [] [] rfl rfl (Nat.zero_le _) (by repeat (first | exact trivial | refine And.intro ⟨_, rfl, SV.imp_refl _⟩ ?_)) (by repeat (first | exact trivial | refine And.intro ⟨_, rfl, Ch.imp_refl _⟩ ?_)) ?_
  intro i h1
  have hi : i < m.copies.length := by omega
  refine T_auto TT_ok rfl ?_
  refine T_condD rfl (fun e => ?_) (fun e => absurd (by omega : (i : Int) < m.copies.length) e)
  refine T_auto TT_ok rfl ?_
  refine T_cond rfl (fun e2 => ?_) (fun e2 => ?_)
  · have hii : i = i0 := by
      rcases Nat.lt_or_ge i i0 with h | h
      · have := (hb i h).symm.trans e2; cases this
      · omega
    subst hii
    refine T_auto TT_ok rfl ?_
    exact T_ans TT_ok [(4, none)] rfl rfl (rfl)
  · have hlt : i < i0 := by
      rcases Nat.lt_or_ge i i0 with h | h
      · exact h
      · have : i = i0 := by omega
        subst this
        have := ha.symm.trans e2; cases this
    refine T_auto TT_ok rfl ?_
    exact X_inv (i + 1) hlt (by omega) (by repeat (first | exact trivial | refine And.intro ⟨_, rfl, SV.imp_refl _⟩ ?_)) (by repeat (first | exact trivial | refine And.intro ⟨_, rfl, Ch.imp_refl _⟩ ?_))
theorem hasB_get {m : GMachine} {r0 : Int} (h : hasB m r0 = true) : ∃ i, i < m.copies.length ∧ (∀ j, j < i → atB r0 (m.copies.getD j GCopy.z) = false) ∧ atB r0 (m.copies.getD i GCopy.z) = true := by
  rcases idxI_cases (atB r0) GCopy.z m.copies with ⟨h1, h2⟩ | ⟨i, h1, h2, h3, h4⟩
  · rw [hasB, any_no h2] at h; cases h
  · exact ⟨i, h1, h3, h4⟩
abbrev mAt (c : GCluster) (r k : Nat) : Int := (c.places.getD r GPlace.z).machines.getD k 0
def badAt (c : GCluster) (r k : Nat) : Bool := bif decide (mAt c r k ≥ (c.machines.length : Int)) then true else bif (c.machines.getD (mAt c r k).toNat GMachine.z).alive then !hasB (c.machines.getD (mAt c r k).toNat GMachine.z) r else false
noncomputable def badTx (c : GCluster) (i : Nat) : Bool := bif (bif (bif !dec (TxOk (c.txs.getD i GTx.z)) then true else bif decide ((i : Int) > 0) then decide ((c.txs.getD i GTx.z).id ≤ (c.txs.getD ((i : Int) - 1).toNat GTx.z).id) else false) then true else decide ((c.txs.getD i GTx.z).home ≥ (c.machines.length : Int))) then true else decide ((c.txs.getD i GTx.z).stamp > c.clock)
def ClusOk (c : GCluster) : Prop := ((1 ≤ c.config ∧ c.config ≤ 1000000) ∧ (0 ≤ c.clock ∧ c.clock ≤ 1000000) ∧ (1 ≤ c.machines.length ∧ c.machines.length ≤ 8) ∧ c.txs.length ≤ 60) ∧ PlOk c.places ∧ (∀ i, i < c.machines.length → MachOk (c.machines.getD i GMachine.z)) ∧
  (∀ r, r < c.places.length → ∀ k, k < (c.places.getD r GPlace.z).machines.length → badAt c r k = false) ∧ ∀ i, i < c.txs.length → badTx c i = false ∧ (∀ k, k < (c.txs.getD i GTx.z).reads.length → ((c.txs.getD i GTx.z).reads.getD k GNote.z).region < c.places.length) ∧ ∀ k, k < (c.txs.getD i GTx.z).sets.length → ((c.txs.getD i GTx.z).sets.getD k GSet.z).region < c.places.length
theorem pl_nonneg {p : GPlace} (h : plOk p) {k : Nat} (hk : k < p.machines.length) : 0 ≤ p.machines.getD k 0 ∧ p.machines.getD k 0 ≤ 7 := by
  have h1 := h.2 k hk
  unfold badPl at h1
  cases c : inB (p.machines.getD k 0) 0 7 with
  | false => rw [c] at h1; cases h1
  | true => exact inB_iff.1 c
theorem spec_ClusterOk_q (c : GCluster) (hb : D.bds bigN (cCluster c)) : Ans Tryz.prog 33 [] [vR (cCluster c)] [] (vB (dec (ClusOk c))) := by
  have b1 : c.places.length ≤ 1048576 := hb.2.2.1.1
  have b2 : c.machines.length ≤ 1048576 := hb.2.2.2.1.1
  have b3 : c.txs.length ≤ 1048576 := hb.2.2.2.2.1.1
  refine con_enter Tryz.func33 rfl rfl rfl fun B0 r_ D_ w0 => ?_
  refine T_auto TT_ok rfl ?_
  refine RJ_Q TT_ok (spec_l1Id_q _) rfl rfl rfl rfl rfl ?_
  refine RJ_Q TT_ok (spec_l1In_q _ _ _) rfl rfl rfl rfl rfl ?_
  refine RJ_Q TT_ok (spec_PlacesOk_q _) rfl rfl rfl rfl rfl ?_
  refine T_cond rfl (fun e => ?_) (fun e => ?_)
  · refine T_auto TT_ok rfl ?_
    exact T_ansB TT_ok [(2, none)] rfl rfl ((dec_false fun h => by have h1 := h.1; simp [dec_true h.2.1, inB_iff.2 h1.1, inB_iff.2 h1.2.1] at e; omega).symm)
  have hH : ((1 ≤ c.config ∧ c.config ≤ 1000000) ∧ (0 ≤ c.clock ∧ c.clock ≤ 1000000) ∧ (1 ≤ c.machines.length ∧ c.machines.length ≤ 8) ∧ c.txs.length ≤ 60) ∧ PlOk c.places := by
    simp only [Bool.cond_true_left, Bool.or_eq_false_iff, Bool.not_eq_false', inB_iff, decide_eq_false_iff_not, dec_iff] at e
    exact ⟨by omega, e.1.2⟩
  clear e
  refine T_auto TT_ok rfl ?_
  refine T_loopA (ι := Nat) (fun i => [(4, vI i)]) (fun _ => []) (fun i => i ≤ c.machines.length ∧ ∀ j, j < i → MachOk (c.machines.getD j GMachine.z)) (fun i => c.machines.length - i) 0 [] [] rfl rfl ⟨Nat.zero_le _, fun j hj => absurd hj (Nat.not_lt_zero _)⟩ (by repeat (first | exact trivial | refine And.intro ⟨_, rfl, SV.imp_refl _⟩ ?_)) (by repeat (first | exact trivial | refine And.intro ⟨_, rfl, Ch.imp_refl _⟩ ?_)) ?_
  intro i ⟨h1, h2⟩
  refine T_auto TT_ok rfl ?_
  refine T_condD rfl (fun e => ?_) (fun e => ?_)
  · have hi : i < c.machines.length := by omega
    refine T_auto TT_ok rfl ?_
    refine RJ_Q TT_ok (spec_MachineOk_q _ (hb.2.2.2.1.2 i hi)) rfl rfl rfl rfl rfl ?_
    refine T_condX rfl (fun e1 => ?_) (fun e1 => ?_)
    · refine T_auto TT_ok rfl ?_
      exact T_ansB TT_ok [(2, none)] rfl rfl ((dec_false fun h => dec_not.1 e1 (h.2.2.1 i hi)).symm)
    · refine T_auto TT_ok rfl ?_
      exact X_inv (i + 1) ⟨hi, before_succ h2 (dec_iff.1 e1)⟩ (by omega) (by repeat (first | exact trivial | refine And.intro ⟨_, rfl, SV.imp_refl _⟩ ?_)) (by repeat (first | exact trivial | refine And.intro ⟨_, rfl, Ch.imp_refl _⟩ ?_))
  have hi : i = c.machines.length := by omega
  subst hi
  clear e h1
  refine T_auto TT_ok rfl ?_
  refine T_loopA (ι := Nat) (fun i => [(5, vI i)]) (fun _ => []) (fun i => i ≤ c.places.length ∧ ∀ r, r < i → ∀ k, k < (c.places.getD r GPlace.z).machines.length → badAt c r k = false) (fun i => c.places.length - i) 0 [] [] rfl rfl ⟨Nat.zero_le _, fun j hj => absurd hj (Nat.not_lt_zero _)⟩ (by repeat (first | exact trivial | refine And.intro ⟨_, rfl, SV.imp_refl _⟩ ?_)) (by repeat (first | exact trivial | refine And.intro ⟨_, rfl, Ch.imp_refl _⟩ ?_)) ?_
  intro i ⟨h1, h3⟩
  refine T_auto TT_ok rfl ?_
  refine T_condD rfl (fun e => ?_) (fun e => ?_)
  · have hi : i < c.places.length := by omega
    have hp := hH.2.2 i hi
    have hpl := hp.1
    refine T_auto TT_ok rfl ?_
    refine T_loopA (ι := Nat) (fun k => [(7, vI k)]) (fun _ => []) (fun k => k ≤ (c.places.getD i GPlace.z).machines.length ∧ ∀ j, j < k → badAt c i j = false) (fun k => (c.places.getD i GPlace.z).machines.length - k) 0 [] [] rfl rfl ⟨Nat.zero_le _, fun j hj => absurd hj (Nat.not_lt_zero _)⟩ (by repeat (first | exact trivial | refine And.intro ⟨_, rfl, SV.imp_refl _⟩ ?_)) (by repeat (first | exact trivial | refine And.intro ⟨_, rfl, Ch.imp_refl _⟩ ?_)) ?_
    intro k ⟨g1, g2⟩
    refine T_auto TT_ok rfl ?_
    refine T_condD rfl (fun e1 => ?_) (fun e1 => ?_)
    · have hk : k < (c.places.getD i GPlace.z).machines.length := by simp at e1 ⊢; omega
      have hn := pl_nonneg hp hk
      refine T_auto TT_ok rfl ?_
      refine T_drawA TT_ok [] rfl rfl fun B0 H0 => ?_
      refine DJ_Q TT_ok (l6At_q _ (bd_at hb.2.2.2.1 ⟨trivial, ⟨Nat.zero_le _, fun i hi => absurd hi (Nat.not_lt_zero _)⟩, ⟨Nat.zero_le _, fun i hi => absurd hi (Nat.not_lt_zero _)⟩, ⟨Nat.zero_le _, fun i hi => absurd hi (Nat.not_lt_zero _)⟩, trivial⟩ _).2.1.1 _) rfl rfl rfl rfl rfl rfl ?_
      refine DJ_endA TT_ok rfl ?_
      rw [idx_lt _ GCopy.z]
      refine T_cond rfl (fun e2 => ?_) (fun e2 => ?_)
      · refine T_auto TT_ok rfl ?_
        exact T_ansB TT_ok [(2, none)] rfl rfl ((dec_false fun h => by have := (h.2.2.2.1 i hi k hk).symm.trans e2; cases this).symm)
      · refine T_auto TT_ok rfl ?_
        exact X_inv (k + 1) ⟨hk, before_succ g2 e2⟩ (by omega) (by repeat (first | exact trivial | refine And.intro ⟨_, rfl, SV.imp_refl _⟩ ?_)) (by repeat (first | exact trivial | refine And.intro ⟨_, rfl, Ch.imp_refl _⟩ ?_))
    · refine T_auto TT_ok rfl ?_
      exact X_inv (i + 1) ⟨hi, before_succ h3 fun k hk => g2 k (by simp at e1 hk; omega)⟩ (by omega) (by repeat (first | exact trivial | refine And.intro ⟨_, rfl, SV.imp_refl _⟩ ?_)) (by repeat (first | exact trivial | refine And.intro ⟨_, rfl, Ch.imp_refl _⟩ ?_))
  have hi : i = c.places.length := by omega
  subst hi
  clear e h1
  refine T_auto TT_ok rfl ?_
  refine T_loopA (ι := Nat) (fun i => [(8, vI i)]) (fun _ => []) (fun i => i ≤ c.txs.length ∧ ∀ j, j < i → badTx c j = false ∧ (∀ k, k < (c.txs.getD j GTx.z).reads.length → ((c.txs.getD j GTx.z).reads.getD k GNote.z).region < c.places.length) ∧ ∀ k, k < (c.txs.getD j GTx.z).sets.length → ((c.txs.getD j GTx.z).sets.getD k GSet.z).region < c.places.length) (fun i => c.txs.length - i) 0 [] [] rfl rfl ⟨Nat.zero_le _, fun j hj => absurd hj (Nat.not_lt_zero _)⟩ (by repeat (first | exact trivial | refine And.intro ⟨_, rfl, SV.imp_refl _⟩ ?_)) (by repeat (first | exact trivial | refine And.intro ⟨_, rfl, Ch.imp_refl _⟩ ?_)) ?_
  intro i ⟨h1, h4⟩
  refine T_auto TT_ok rfl ?_
  refine T_condD rfl (fun e => ?_) (fun e => ?_)
  · have hi : i < c.txs.length := by omega
    have r1 : (c.txs.getD i GTx.z).reads.length ≤ 1048576 := (hb.2.2.2.2.1.2 i hi).2.2.2.2.1.1
    have r2 : (c.txs.getD i GTx.z).sets.length ≤ 1048576 := (hb.2.2.2.2.1.2 i hi).2.2.2.2.2.1.1
    refine T_auto TT_ok rfl ?_
    refine T_drawA TT_ok [] rfl rfl fun B0 H0 => ?_
    refine DJ_Q TT_ok (spec_TxOk_q _) rfl rfl rfl rfl rfl rfl ?_
    refine DJ_endA TT_ok rfl ?_
    refine T_cond rfl (fun e1 => ?_) (fun e1 => ?_)
    · refine T_auto TT_ok rfl ?_
      exact T_ansB TT_ok [(2, none)] rfl rfl ((dec_false fun h => by have := (h.2.2.2.2 i hi).1.symm.trans e1; cases this).symm)
    refine T_auto TT_ok rfl ?_
    refine T_loopA (ι := Nat) (fun k => [(10, vI k)]) (fun _ => []) (fun k => k ≤ (c.txs.getD i GTx.z).reads.length ∧ ∀ j, j < k → ((c.txs.getD i GTx.z).reads.getD j GNote.z).region < c.places.length) (fun k => (c.txs.getD i GTx.z).reads.length - k) 0 [] [] rfl rfl ⟨Nat.zero_le _, fun j hj => absurd hj (Nat.not_lt_zero _)⟩ (by repeat (first | exact trivial | refine And.intro ⟨_, rfl, SV.imp_refl _⟩ ?_)) (by repeat (first | exact trivial | refine And.intro ⟨_, rfl, Ch.imp_refl _⟩ ?_)) ?_
    intro k ⟨g1, g2⟩
    refine T_auto TT_ok rfl ?_
    refine T_condD rfl (fun e2 => ?_) (fun e2 => ?_)
    · have hk : k < (c.txs.getD i GTx.z).reads.length := by simp at e2 ⊢; omega
      refine T_auto TT_ok rfl ?_
      refine T_drawA TT_ok [] rfl rfl fun B0 H0 => ?_
      refine DJ_endA TT_ok rfl ?_
      refine T_condD rfl (fun e3 => ?_) (fun e3 => ?_)
      · refine T_auto TT_ok rfl ?_
        exact T_ansB TT_ok [(2, none)] rfl rfl ((dec_false fun h => by have := (h.2.2.2.2 i hi).2.1 k hk; simp at e3 this; omega).symm)
      · refine T_auto TT_ok rfl ?_
        exact X_inv (k + 1) ⟨hk, before_succ g2 (by simp at e3 ⊢; omega)⟩ (by omega) (by repeat (first | exact trivial | refine And.intro ⟨_, rfl, SV.imp_refl _⟩ ?_)) (by repeat (first | exact trivial | refine And.intro ⟨_, rfl, Ch.imp_refl _⟩ ?_))
    have hg : ∀ j, j < (c.txs.getD i GTx.z).reads.length → ((c.txs.getD i GTx.z).reads.getD j GNote.z).region < c.places.length := fun j hj => g2 j (by simp at e2 hj; omega)
    clear g1 g2 e2
    refine T_auto TT_ok rfl ?_
    refine T_loopA (ι := Nat) (fun k => [(11, vI k)]) (fun _ => []) (fun k => k ≤ (c.txs.getD i GTx.z).sets.length ∧ ∀ j, j < k → ((c.txs.getD i GTx.z).sets.getD j GSet.z).region < c.places.length) (fun k => (c.txs.getD i GTx.z).sets.length - k) 0 [] [] rfl rfl ⟨Nat.zero_le _, fun j hj => absurd hj (Nat.not_lt_zero _)⟩ (by repeat (first | exact trivial | refine And.intro ⟨_, rfl, SV.imp_refl _⟩ ?_)) (by repeat (first | exact trivial | refine And.intro ⟨_, rfl, Ch.imp_refl _⟩ ?_)) ?_
    intro k ⟨g1, g2⟩
    refine T_auto TT_ok rfl ?_
    refine T_condD rfl (fun e2 => ?_) (fun e2 => ?_)
    · have hk : k < (c.txs.getD i GTx.z).sets.length := by simp at e2 ⊢; omega
      refine T_auto TT_ok rfl ?_
      refine T_drawA TT_ok [] rfl rfl fun B0 H0 => ?_
      refine DJ_endA TT_ok rfl ?_
      refine T_condD rfl (fun e3 => ?_) (fun e3 => ?_)
      · refine T_auto TT_ok rfl ?_
        exact T_ansB TT_ok [(2, none)] rfl rfl ((dec_false fun h => by have := (h.2.2.2.2 i hi).2.2 k hk; simp at e3 this; omega).symm)
      · refine T_auto TT_ok rfl ?_
        exact X_inv (k + 1) ⟨hk, before_succ g2 (by simp at e3 ⊢; omega)⟩ (by omega) (by repeat (first | exact trivial | refine And.intro ⟨_, rfl, SV.imp_refl _⟩ ?_)) (by repeat (first | exact trivial | refine And.intro ⟨_, rfl, Ch.imp_refl _⟩ ?_))
    · refine T_auto TT_ok rfl ?_
      exact X_inv (i + 1) ⟨hi, before_succ h4 ⟨e1, hg, fun j hj => g2 j (by simp at e2 hj; omega)⟩⟩ (by omega) (by repeat (first | exact trivial | refine And.intro ⟨_, rfl, SV.imp_refl _⟩ ?_)) (by repeat (first | exact trivial | refine And.intro ⟨_, rfl, Ch.imp_refl _⟩ ?_))
  · refine T_auto TT_ok rfl ?_
    exact T_ansB TT_ok [(2, none)] rfl rfl ((dec_true ⟨hH.1, hH.2, h2, h3, fun j hj => h4 j (by omega)⟩).symm)
theorem isCluster1_q (m : GMachine) (hb : D.bds bigN (cMachine m)) : Ans Tryz.prog 88 [] [vR (cMachine m)] [] (vB (!dec (MachOk m))) := by
  refine con_enter Tryz.func88 rfl rfl rfl fun B0 r_ D_ w0 => ?_
  refine T_auto TT_ok rfl ?_
  refine RJ_Q TT_ok (impl_isMachineOk_q _ hb) rfl rfl rfl rfl rfl ?_
  exact T_ansB TT_ok [(2, none)] rfl rfl (rfl)
theorem isCluster2_q (n : GNote) (x : Int) : Ans Tryz.prog 92 [] [vR (cNote n), vP [dI x]] [] (vB (decide (n.region ≥ x))) := by
  refine con_enter Tryz.func92 rfl rfl rfl fun B0 r_ D_ w0 => ?_
  refine T_auto TT_ok rfl ?_
  exact T_ansB TT_ok [(3, none)] rfl rfl (rfl)
theorem isCluster3_q (n : GSet) (x : Int) : Ans Tryz.prog 94 [] [vR (cSet n), vP [dI x]] [] (vB (decide (n.region ≥ x))) := by
  refine con_enter Tryz.func94 rfl rfl rfl fun B0 r_ D_ w0 => ?_
  refine T_auto TT_ok rfl ?_
  exact T_ansB TT_ok [(3, none)] rfl rfl (rfl)
theorem bdM_any {c : GCluster} (hb : D.bds bigN (cCluster c)) (i : Nat) : D.bds bigN (cMachine (c.machines.getD i GMachine.z)) := bd_at hb.2.2.2.1 ⟨trivial, ⟨Nat.zero_le _, fun i hi => absurd hi (Nat.not_lt_zero _)⟩, ⟨Nat.zero_le _, fun i hi => absurd hi (Nat.not_lt_zero _)⟩, ⟨Nat.zero_le _, fun i hi => absurd hi (Nat.not_lt_zero _)⟩, trivial⟩ _
theorem hasB_lt {c : GCluster} {i : Nat} {r0 : Int} (h : hasB (c.machines.getD i GMachine.z) r0 = true) : i < c.machines.length := by
  rcases Nat.lt_or_ge i c.machines.length with h1 | h1
  · exact h1
  · rw [List.getD_eq_getElem?_getD, List.getElem?_eq_none h1] at h; cases h
theorem cells6 {m : GMachine} (h : MachOk m) {i : Nat} (hi : i < m.copies.length) : cellsB (m.copies.getD i GCopy.z).cells = true := by
  have h1 := h.2.2.1 i hi
  unfold badCopy at h1
  cases c : cellsB (m.copies.getD i GCopy.z).cells with
  | true => rfl
  | false => rw [c] at h1; cases c2 : inB (m.copies.getD i GCopy.z).region 0 5 <;> rw [c2] at h1 <;> cases h1
theorem cellsB_len {xs : List GCell} (h : cellsB xs = true) : xs.length = 6 := by
  unfold cellsB at h
  cases c : ((xs.length : Int) == 6) with
  | false => rw [c] at h; cases h
  | true => have := beq_iff_eq.1 c; omega
theorem tx_impl (c : GCluster) (i : Nat) : (bif (bif badTx c i then true else (c.txs.getD i GTx.z).reads.any fun n => decide (n.region ≥ (c.places.length : Int))) then true else (c.txs.getD i GTx.z).sets.any fun n => decide (n.region ≥ (c.places.length : Int))) = false ↔
    badTx c i = false ∧ (∀ k, k < (c.txs.getD i GTx.z).reads.length → ((c.txs.getD i GTx.z).reads.getD k GNote.z).region < c.places.length) ∧ ∀ k, k < (c.txs.getD i GTx.z).sets.length → ((c.txs.getD i GTx.z).sets.getD k GSet.z).region < c.places.length := by
  constructor
  · intro h
    cases c1 : badTx c i with
    | true => rw [c1] at h; cases h
    | false =>
      rw [c1] at h
      cases c2 : (c.txs.getD i GTx.z).reads.any fun n => decide (n.region ≥ (c.places.length : Int)) with
      | true => rw [c2] at h; cases h
      | false =>
        rw [c2] at h
        refine ⟨rfl, fun k hk => ?_, fun k hk => ?_⟩
        · have := any_get (z := GNote.z) c2 k hk
          have := of_decide_eq_false this
          omega
        · have := any_get (z := GSet.z) (show ((c.txs.getD i GTx.z).sets.any fun n => decide (n.region ≥ (c.places.length : Int))) = false from h) k hk
          have := of_decide_eq_false this
          omega
  · rintro ⟨h1, h2, h3⟩
    rw [h1, any_no (z := GNote.z) fun k hk => decide_eq_false (by have := h2 k hk; omega), any_no (z := GSet.z) fun k hk => decide_eq_false (by have := h3 k hk; omega)]; rfl
theorem impl_isCluster_q (c : GCluster) (hb : D.bds bigN (cCluster c)) : Ans Tryz.prog 43 [] [vR (cCluster c)] [] (vB (dec (ClusOk c))) := by
  have b1 : c.places.length ≤ 1048576 := hb.2.2.1.1
  have b2 : c.machines.length ≤ 1048576 := hb.2.2.2.1.1
  have b3 : c.txs.length ≤ 1048576 := hb.2.2.2.2.1.1
  refine con_enter Tryz.func43 rfl rfl rfl fun B0 r_ D_ w0 => ?_
  refine T_auto TT_ok rfl ?_
  refine RJ_Q TT_ok (sizeMachine_q _) rfl rfl rfl rfl rfl ?_
  refine RJ_Q TT_ok (impl_isId_q _) rfl rfl rfl rfl rfl ?_
  refine RJ_Q TT_ok (impl_within_q _ _ _) rfl rfl rfl rfl rfl ?_
  refine RJ_Q TT_ok (impl_within_q _ _ _) rfl rfl rfl rfl rfl ?_
  refine RJ_Q TT_ok (impl_arePlaces_q _ b1 (fun i hi => (hb.2.2.1.2 i hi).1.1)) rfl rfl rfl rfl rfl ?_
  refine RJ_QF TT_ok (containsFuncMachine_p c.machines b2 (fun m => D.bds bigN (cMachine m)) (fun i hi => hb.2.2.2.1.2 i hi) fun m => !dec (MachOk m)) rfl rfl (SVs.cons (SV.imp_refl _) (SVs.cons (imp_fb (enters_B (by kernel_rfl)) rfl fun args x ⟨n, hn, e1, e2⟩ => by subst e1; subst e2; exact isCluster1_q n hn) rfl)) rfl rfl ?_
  refine T_cond rfl (fun e => ?_) (fun e => ?_)
  · refine T_auto TT_ok rfl ?_
    exact T_ansB TT_ok [(2, none)] rfl rfl ((dec_false fun h => by have h1 := h.1; rw [any_no (z := GMachine.z) fun j hj => by rw [dec_true (h.2.2.1 j hj)]; rfl] at e; simp [dec_true h.2.1, inB_iff.2 h1.1, inB_iff.2 h1.2.1, inB_iff.2 (show (1 : Int) ≤ (c.machines.length : Int) ∧ (c.machines.length : Int) ≤ 8 from by omega)] at e; omega).symm)
  have hH : (((1 ≤ c.config ∧ c.config ≤ 1000000) ∧ (0 ≤ c.clock ∧ c.clock ≤ 1000000) ∧ (1 ≤ c.machines.length ∧ c.machines.length ≤ 8) ∧ c.txs.length ≤ 60) ∧ PlOk c.places) ∧ (c.machines.any fun m => !dec (MachOk m)) = false := by
    simp only [Bool.cond_true_left, Bool.or_eq_false_iff, Bool.not_eq_false', inB_iff, decide_eq_false_iff_not, dec_iff] at e
    exact ⟨⟨by omega, e.1.2⟩, e.2⟩
  have hM : ∀ i, i < c.machines.length → MachOk (c.machines.getD i GMachine.z) := fun i hi => by have := any_get (z := GMachine.z) hH.2 i hi; simpa [dec_iff] using this
  replace hH := hH.1
  clear e
  refine T_auto TT_ok rfl ?_
  refine T_loopA (ι := Nat) (fun i => [(49, vI i)]) (fun _ => []) (fun i => i ≤ c.places.length ∧ ∀ r, r < i → ∀ k, k < (c.places.getD r GPlace.z).machines.length → badAt c r k = false) (fun i => c.places.length - i) 0 [] [] rfl rfl ⟨Nat.zero_le _, fun j hj => absurd hj (Nat.not_lt_zero _)⟩ (by repeat (first | exact trivial | refine And.intro ⟨_, rfl, SV.imp_refl _⟩ ?_)) (by repeat (first | exact trivial | refine And.intro ⟨_, rfl, Ch.imp_refl _⟩ ?_)) ?_
  intro i ⟨h1, h3⟩
  refine T_auto TT_ok rfl ?_
  refine T_condD rfl (fun e => ?_) (fun e => ?_)
  · have hi : i < c.places.length := by omega
    have hp := hH.2.2 i hi
    have hpl := hp.1
    refine T_auto TT_ok rfl ?_
    refine T_loopA (ι := Nat) (fun k => [(57, vI k)]) (fun _ => []) (fun k => k ≤ (c.places.getD i GPlace.z).machines.length ∧ ∀ j, j < k → badAt c i j = false) (fun k => (c.places.getD i GPlace.z).machines.length - k) 0 [] [] rfl rfl ⟨Nat.zero_le _, fun j hj => absurd hj (Nat.not_lt_zero _)⟩ (by repeat (first | exact trivial | refine And.intro ⟨_, rfl, SV.imp_refl _⟩ ?_)) (by repeat (first | exact trivial | refine And.intro ⟨_, rfl, Ch.imp_refl _⟩ ?_)) ?_
    intro k ⟨g1, g2⟩
    refine T_auto TT_ok rfl ?_
    refine T_condD rfl (fun e1 => ?_) (fun e1 => ?_)
    · have hk : k < (c.places.getD i GPlace.z).machines.length := by simp at e1 ⊢; omega
      have hn := pl_nonneg hp hk
      refine T_auto TT_ok rfl ?_
      cases hh : hasB (c.machines.getD (mAt c i k).toNat GMachine.z) i with
      | false =>
        refine RJ_Q TT_ok (cells_none_q _ (bdM_any hb _).2.1.1 _ hh) rfl rfl rfl rfl rfl ?_
        refine T_cond rfl (fun e2 => ?_) (fun e2 => ?_)
        · refine T_auto TT_ok rfl ?_
          exact T_ansB TT_ok [(2, none)] rfl rfl ((dec_false fun h => by have h5 := h.2.2.2.1 i hi k hk; unfold badAt at h5; rw [hh] at h5; have := h5.symm.trans e2; cases this).symm)
        · refine T_auto TT_ok rfl ?_
          exact X_inv (k + 1) ⟨hk, before_succ g2 (by unfold badAt; rw [hh]; exact e2)⟩ (by omega) (by repeat (first | exact trivial | refine And.intro ⟨_, rfl, SV.imp_refl _⟩ ?_)) (by repeat (first | exact trivial | refine And.intro ⟨_, rfl, Ch.imp_refl _⟩ ?_))
      | true =>
        obtain ⟨i0, w1, w2, w3⟩ := hasB_get hh
        refine RJ_QR TT_ok (cells_some_q _ (bdM_any hb _).2.1.1 _ i0 w1 w2 w3) rfl rfl (SVs.imp_refl _) rfl rfl ?_
        have h6 := cellsB_len (cells6 (hM _ (hasB_lt hh)) w1)
        refine RJ_nilG TT_ok rfl rfl rfl rfl rfl rfl rfl rfl rfl (by omega) ?_
        refine RJ_auto TT_ok rfl ?_
        refine T_cond rfl (fun e2 => ?_) (fun e2 => ?_)
        · refine T_auto TT_ok rfl ?_
          exact T_ansB TT_ok [(2, none)] rfl rfl ((dec_false fun h => by have h5 := h.2.2.2.1 i hi k hk; unfold badAt at h5; rw [hh] at h5; have := h5.symm.trans e2; cases this).symm)
        · refine T_auto TT_ok rfl ?_
          exact X_inv (k + 1) ⟨hk, before_succ g2 (by unfold badAt; rw [hh]; exact e2)⟩ (by omega) (by repeat (first | exact trivial | refine And.intro ⟨_, rfl, SV.imp_refl _⟩ ?_)) (by repeat (first | exact trivial | refine And.intro ⟨_, rfl, Ch.imp_refl _⟩ ?_))
    · refine T_auto TT_ok rfl ?_
      exact X_inv (i + 1) ⟨hi, before_succ h3 fun k hk => g2 k (by simp at e1 hk; omega)⟩ (by omega) (by repeat (first | exact trivial | refine And.intro ⟨_, rfl, SV.imp_refl _⟩ ?_)) (by repeat (first | exact trivial | refine And.intro ⟨_, rfl, Ch.imp_refl _⟩ ?_))
  have hi : i = c.places.length := by omega
  subst hi
  clear e h1
  refine T_auto TT_ok rfl ?_
  refine RJ_Q TT_ok (sizePlace_q _) rfl rfl rfl rfl rfl ?_
  refine T_loopA (ι := Nat) (fun i => [(89, vI i)]) (fun _ => []) (fun i => i ≤ c.txs.length ∧ ∀ j, j < i → badTx c j = false ∧ (∀ k, k < (c.txs.getD j GTx.z).reads.length → ((c.txs.getD j GTx.z).reads.getD k GNote.z).region < c.places.length) ∧ ∀ k, k < (c.txs.getD j GTx.z).sets.length → ((c.txs.getD j GTx.z).sets.getD k GSet.z).region < c.places.length) (fun i => c.txs.length - i) 0 [] [] rfl rfl ⟨Nat.zero_le _, fun j hj => absurd hj (Nat.not_lt_zero _)⟩ (by repeat (first | exact trivial | refine And.intro ⟨_, rfl, SV.imp_refl _⟩ ?_)) (by repeat (first | exact trivial | refine And.intro ⟨_, rfl, Ch.imp_refl _⟩ ?_)) ?_
  intro i ⟨h1, h4⟩
  refine T_auto TT_ok rfl ?_
  refine T_condD rfl (fun e => ?_) (fun e => ?_)
  · have hi : i < c.txs.length := by omega
    have r1 : (c.txs.getD i GTx.z).reads.length ≤ 1048576 := (hb.2.2.2.2.1.2 i hi).2.2.2.2.1.1
    have r2 : (c.txs.getD i GTx.z).sets.length ≤ 1048576 := (hb.2.2.2.2.1.2 i hi).2.2.2.2.2.1.1
    refine T_auto TT_ok rfl ?_
    refine T_drawA TT_ok [] rfl rfl fun B0 H0 => ?_
    refine DJ_Q TT_ok (impl_isTx_q _) rfl rfl rfl rfl rfl rfl ?_
    refine DJ_QF TT_ok (containsFuncNote_q (c.txs.getD i GTx.z).reads r1 fun n => decide (n.region ≥ (c.places.length : Int))) rfl rfl rfl (SVs.cons (SV.imp_refl _) (SVs.cons (imp_fb (enters_B (by kernel_rfl)) rfl fun args x ⟨n, e1, e2⟩ => by subst e1; subst e2; exact isCluster2_q n _) rfl)) rfl rfl ?_
    refine DJ_QF TT_ok (containsFuncSet_q (c.txs.getD i GTx.z).sets r2 fun n => decide (n.region ≥ (c.places.length : Int))) rfl rfl rfl (SVs.cons (SV.imp_refl _) (SVs.cons (imp_fb (enters_B (by kernel_rfl)) rfl fun args x ⟨n, e1, e2⟩ => by subst e1; subst e2; exact isCluster3_q n _) rfl)) rfl rfl ?_
    refine DJ_endA TT_ok rfl ?_
    refine T_cond rfl (fun e1 => ?_) (fun e1 => ?_)
    · refine T_auto TT_ok rfl ?_
      exact T_ansB TT_ok [(2, none)] rfl rfl ((dec_false fun h => by have := ((tx_impl c i).2 (h.2.2.2.2 i hi)).symm.trans e1; cases this).symm)
    · refine T_auto TT_ok rfl ?_
      exact X_inv (i + 1) ⟨hi, before_succ h4 ((tx_impl c i).1 e1)⟩ (by omega) (by repeat (first | exact trivial | refine And.intro ⟨_, rfl, SV.imp_refl _⟩ ?_)) (by repeat (first | exact trivial | refine And.intro ⟨_, rfl, Ch.imp_refl _⟩ ?_))
  · refine T_auto TT_ok rfl ?_
    exact T_ansB TT_ok [(2, none)] rfl rfl ((dec_true ⟨hH.1, hH.2, hM, h3, fun j hj => h4 j (by omega)⟩).symm)
end Go.Proofs.YthpjoddhlkcciaaGreat
