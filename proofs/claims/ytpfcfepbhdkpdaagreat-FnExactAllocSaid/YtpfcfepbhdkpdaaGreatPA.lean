
/-
  Numbers in ranges; notes, Sets, the order of cells, on both sides.
  Transactions: are they right, what was told of them.
-/
import Derived.Test.YtpfcfepbhdkpdaaGreatWG
namespace Go.Proofs.YtpfcfepbhdkpdaaGreat
open Go Go.RowKit
set_option linter.unusedVariables false
set_option linter.unusedSimpArgs false

section
set_option maxRecDepth 4000

structure GSet where
  region : Int
  slot : Int
  value : Int
  used : Bool
  version : Int
def GSet.z : GSet := ⟨0, 0, 0, false, 0⟩
structure GNote where
  region : Int
  slot : Int
  version : Int
  value : Int
  used : Bool
def GNote.z : GNote := ⟨0, 0, 0, 0, false⟩
structure GCell where
  head : Int
  value : Int
def GCell.z : GCell := ⟨0, 0⟩
structure GOp where
  kind : Int
  id : Int
  a : Int
  b : Int
  c : Int
def GOp.z : GOp := ⟨0, 0, 0, 0, 0⟩
structure GTx where
  id : Int
  home : Int
  phase : Int
  done : Int
  reads : List GNote
  sets : List GSet
  stamp : Int
def GTx.z : GTx := ⟨0, 0, 0, 0, [], [], 0⟩
abbrev dI (x : Int) : D := .v (.int .i64 x)
abbrev dB (x : Bool) : D := .v (.bool x)
def cInt (n : Int) : List D := [dI n]
def cBool (n : Bool) : List D := [dB n]
def cSet (n : GSet) : List D := [dI n.region, dI n.slot, dI n.value, dB n.used, dI n.version]
def cNote (n : GNote) : List D := [dI n.region, dI n.slot, dI n.version, dI n.value, dB n.used]
def cCell (n : GCell) : List D := [dI n.head, dI n.value]
def cOp (n : GOp) : List D := [dI n.kind, dI n.id, dI n.a, dI n.b, dI n.c]
def cTx (t : GTx) : List D := [dI t.id, dI t.home, dI t.phase, dI t.done, dL 5 cNote GNote.z t.reads, dL 5 cSet GSet.z t.sets, dI t.stamp]

def inB (x lo hi : Int) : Bool := bif decide (x ≥ lo) then decide (x ≤ hi) else false
theorem inB_iff {x lo hi : Int} : inB x lo hi = true ↔ lo ≤ x ∧ x ≤ hi := by
  unfold inB
  by_cases h : x ≥ lo <;> simp [h]
theorem inB_not {x lo hi : Int} : inB x lo hi = false ↔ ¬ (lo ≤ x ∧ x ≤ hi) := by rw [← inB_iff]; simp
theorem spec_l1In_q (x lo hi : Int) : Ans Tryz.prog 47 [] [vI x, vI lo, vI hi] [] (vB (inB x lo hi)) := by
  refine con_enter Tryz.func47 rfl rfl rfl fun B0 r_ D_ w0 => ?_
  refine T_auto TT_ok rfl ?_
  exact T_ansB TT_ok [(6, none)] rfl rfl (rfl)
theorem impl_within_q (x lo hi : Int) : Ans Tryz.prog 72 [] [vI x, vI lo, vI hi] [] (vB (inB x lo hi)) := by
  refine con_enter Tryz.func72 rfl rfl rfl fun B0 r_ D_ w0 => ?_
  refine T_auto TT_ok rfl ?_
  exact T_ansB TT_ok [(6, none)] rfl rfl (rfl)
theorem spec_l1Id_q (x : Int) : Ans Tryz.prog 126 [] [vI x] [] (vB (inB x (1) 1000000)) := by
  refine con_enter Tryz.func126 rfl rfl rfl fun B0 r_ D_ w0 => ?_
  refine T_auto TT_ok rfl ?_
  refine RJ_Q TT_ok (spec_l1In_q _ _ _) rfl rfl rfl rfl rfl ?_
  exact T_ansB TT_ok [(2, none)] rfl rfl (rfl)
theorem spec_l1Machine_q (x : Int) : Ans Tryz.prog 166 [] [vI x] [] (vB (inB x (0) 7)) := by
  refine con_enter Tryz.func166 rfl rfl rfl fun B0 r_ D_ w0 => ?_
  refine T_auto TT_ok rfl ?_
  refine RJ_Q TT_ok (spec_l1In_q _ _ _) rfl rfl rfl rfl rfl ?_
  exact T_ansB TT_ok [(2, none)] rfl rfl (rfl)
theorem spec_l1Region_q (x : Int) : Ans Tryz.prog 167 [] [vI x] [] (vB (inB x (0) 5)) := by
  refine con_enter Tryz.func167 rfl rfl rfl fun B0 r_ D_ w0 => ?_
  refine T_auto TT_ok rfl ?_
  refine RJ_Q TT_ok (spec_l1In_q _ _ _) rfl rfl rfl rfl rfl ?_
  exact T_ansB TT_ok [(2, none)] rfl rfl (rfl)
theorem spec_l1Slot_q (x : Int) : Ans Tryz.prog 101 [] [vI x] [] (vB (inB x (0) 5)) := by
  refine con_enter Tryz.func101 rfl rfl rfl fun B0 r_ D_ w0 => ?_
  refine T_auto TT_ok rfl ?_
  refine RJ_Q TT_ok (spec_l1In_q _ _ _) rfl rfl rfl rfl rfl ?_
  exact T_ansB TT_ok [(2, none)] rfl rfl (rfl)
theorem spec_l1Value_q (x : Int) : Ans Tryz.prog 58 [] [vI x] [] (vB (inB x (-1000000000) 1000000000)) := by
  refine con_enter Tryz.func58 rfl rfl rfl fun B0 r_ D_ w0 => ?_
  refine T_auto TT_ok rfl ?_
  refine RJ_Q TT_ok (spec_l1In_q _ _ _) rfl rfl rfl rfl rfl ?_
  exact T_ansB TT_ok [(2, none)] rfl rfl (rfl)
theorem spec_l1Version_q (x : Int) : Ans Tryz.prog 168 [] [vI x] [] (vB (inB x (0) 1000000)) := by
  refine con_enter Tryz.func168 rfl rfl rfl fun B0 r_ D_ w0 => ?_
  refine T_auto TT_ok rfl ?_
  refine RJ_Q TT_ok (spec_l1In_q _ _ _) rfl rfl rfl rfl rfl ?_
  exact T_ansB TT_ok [(2, none)] rfl rfl (rfl)
theorem spec_HeadOk_q (x : Int) : Ans Tryz.prog 113 [] [vI x] [] (vB (inB x (0) 4000003)) := by
  refine con_enter Tryz.func113 rfl rfl rfl fun B0 r_ D_ w0 => ?_
  refine T_auto TT_ok rfl ?_
  refine RJ_Q TT_ok (spec_l1In_q _ _ _) rfl rfl rfl rfl rfl ?_
  exact T_ansB TT_ok [(2, none)] rfl rfl (rfl)
theorem impl_isId_q (x : Int) : Ans Tryz.prog 71 [] [vI x] [] (vB (inB x (1) 1000000)) := by
  refine con_enter Tryz.func71 rfl rfl rfl fun B0 r_ D_ w0 => ?_
  refine T_auto TT_ok rfl ?_
  refine RJ_Q TT_ok (impl_within_q _ _ _) rfl rfl rfl rfl rfl ?_
  exact T_ansB TT_ok [(2, none)] rfl rfl (rfl)
theorem impl_isMachine_q (x : Int) : Ans Tryz.prog 137 [] [vI x] [] (vB (inB x (0) 7)) := by
  refine con_enter Tryz.func137 rfl rfl rfl fun B0 r_ D_ w0 => ?_
  refine T_auto TT_ok rfl ?_
  refine RJ_Q TT_ok (impl_within_q _ _ _) rfl rfl rfl rfl rfl ?_
  exact T_ansB TT_ok [(2, none)] rfl rfl (rfl)
theorem impl_isRegion_q (x : Int) : Ans Tryz.prog 143 [] [vI x] [] (vB (inB x (0) 5)) := by
  refine con_enter Tryz.func143 rfl rfl rfl fun B0 r_ D_ w0 => ?_
  refine T_auto TT_ok rfl ?_
  refine RJ_Q TT_ok (impl_within_q _ _ _) rfl rfl rfl rfl rfl ?_
  exact T_ansB TT_ok [(2, none)] rfl rfl (rfl)
theorem impl_isSlot_q (x : Int) : Ans Tryz.prog 104 [] [vI x] [] (vB (inB x (0) 5)) := by
  refine con_enter Tryz.func104 rfl rfl rfl fun B0 r_ D_ w0 => ?_
  refine T_auto TT_ok rfl ?_
  refine RJ_Q TT_ok (impl_within_q _ _ _) rfl rfl rfl rfl rfl ?_
  exact T_ansB TT_ok [(2, none)] rfl rfl (rfl)
theorem impl_isValue_q (x : Int) : Ans Tryz.prog 59 [] [vI x] [] (vB (inB x (-1000000000) 1000000000)) := by
  refine con_enter Tryz.func59 rfl rfl rfl fun B0 r_ D_ w0 => ?_
  refine T_auto TT_ok rfl ?_
  refine RJ_Q TT_ok (impl_within_q _ _ _) rfl rfl rfl rfl rfl ?_
  exact T_ansB TT_ok [(2, none)] rfl rfl (rfl)
theorem impl_isHead_q (x : Int) : Ans Tryz.prog 185 [] [vI x] [] (vB (inB x (0) 4000003)) := by
  refine con_enter Tryz.func185 rfl rfl rfl fun B0 r_ D_ w0 => ?_
  refine T_auto TT_ok rfl ?_
  refine RJ_Q TT_ok (impl_within_q _ _ _) rfl rfl rfl rfl rfl ?_
  exact T_ansB TT_ok [(2, none)] rfl rfl (rfl)
def noteB (n : GNote) : Bool := bif (bif (bif inB n.region 0 5 then inB n.slot 0 5 else false) then inB n.version 0 1000000 else false) then inB n.value (-1000000000) 1000000000 else false
def setB (s : GSet) : Bool := bif (bif (bif inB s.region 0 5 then inB s.slot 0 5 else false) then inB s.value (-1000000000) 1000000000 else false) then inB s.version 0 999999 else false
theorem spec_l7Note_q (n : GNote) : Ans Tryz.prog 115 [] [vR (cNote n)] [] (vB (noteB n)) := by
  refine con_enter Tryz.func115 rfl rfl rfl fun B0 r_ D_ w0 => ?_
  refine T_auto TT_ok rfl ?_
  refine RJ_Q TT_ok (spec_l1Region_q _) rfl rfl rfl rfl rfl ?_
  refine RJ_Q TT_ok (spec_l1Slot_q _) rfl rfl rfl rfl rfl ?_
  refine RJ_Q TT_ok (spec_l1Version_q _) rfl rfl rfl rfl rfl ?_
  refine RJ_Q TT_ok (spec_l1Value_q _) rfl rfl rfl rfl rfl ?_
  exact T_ansB TT_ok [(2, none)] rfl rfl (rfl)
theorem impl_isNote_q (n : GNote) : Ans Tryz.prog 145 [] [vR (cNote n)] [] (vB (noteB n)) := by
  refine con_enter Tryz.func145 rfl rfl rfl fun B0 r_ D_ w0 => ?_
  refine T_auto TT_ok rfl ?_
  refine RJ_Q TT_ok (impl_isRegion_q _) rfl rfl rfl rfl rfl ?_
  refine RJ_Q TT_ok (impl_isSlot_q _) rfl rfl rfl rfl rfl ?_
  refine RJ_Q TT_ok (impl_within_q _ _ _) rfl rfl rfl rfl rfl ?_
  refine RJ_Q TT_ok (impl_isValue_q _) rfl rfl rfl rfl rfl ?_
  exact T_ansB TT_ok [(2, none)] rfl rfl (rfl)
theorem spec_SetOk_q (n : GSet) : Ans Tryz.prog 117 [] [vR (cSet n)] [] (vB (setB n)) := by
  refine con_enter Tryz.func117 rfl rfl rfl fun B0 r_ D_ w0 => ?_
  refine T_auto TT_ok rfl ?_
  refine RJ_Q TT_ok (spec_l1Region_q _) rfl rfl rfl rfl rfl ?_
  refine RJ_Q TT_ok (spec_l1Slot_q _) rfl rfl rfl rfl rfl ?_
  refine RJ_Q TT_ok (spec_l1Value_q _) rfl rfl rfl rfl rfl ?_
  refine RJ_Q TT_ok (spec_l1In_q _ _ _) rfl rfl rfl rfl rfl ?_
  exact T_ansB TT_ok [(2, none)] rfl rfl (rfl)
theorem impl_isSet_q (n : GSet) : Ans Tryz.prog 119 [] [vR (cSet n)] [] (vB (setB n)) := by
  refine con_enter Tryz.func119 rfl rfl rfl fun B0 r_ D_ w0 => ?_
  refine T_auto TT_ok rfl ?_
  refine RJ_Q TT_ok (impl_isRegion_q _) rfl rfl rfl rfl rfl ?_
  refine RJ_Q TT_ok (impl_isSlot_q _) rfl rfl rfl rfl rfl ?_
  refine RJ_Q TT_ok (impl_isValue_q _) rfl rfl rfl rfl rfl ?_
  refine RJ_Q TT_ok (impl_within_q _ _ _) rfl rfl rfl rfl rfl ?_
  exact T_ansB TT_ok [(2, none)] rfl rfl (rfl)
def lessB (r s q t : Int) : Bool := bif decide (r < q) then true else bif r == q then decide (s < t) else false
theorem lessB_iff {r s q t : Int} : lessB r s q t = true ↔ r < q ∨ r = q ∧ s < t := by
  unfold lessB
  by_cases h : r < q <;> by_cases h2 : r = q <;> simp [h, h2]
theorem spec_l7Less_q (a b c d : Int) : Ans Tryz.prog 116 [] [vI a, vI b, vI c, vI d] [] (vB (lessB a b c d)) := by
  refine con_enter Tryz.func116 rfl rfl rfl fun B0 r_ D_ w0 => ?_
  refine T_auto TT_ok rfl ?_
  exact T_ansB TT_ok [(8, none)] rfl rfl (rfl)
def ordI (a b : Int) : Int := if a < b then -1 else if a > b then 1 else 0
theorem isNaN_q (a : Int) : Ans Tryz.prog 202 [] [vI a] [] (vB false) := by
  refine con_enter Tryz.func202 rfl rfl rfl fun B0 r_ D_ w0 => ?_
  refine T_auto TT_ok rfl ?_
  exact T_ansB TT_ok [(2, none)] rfl rfl (by simp)
theorem compare_q (a b : Int) : Ans Tryz.prog 187 [] [vI a, vI b] [] (vI (ordI a b)) := by
  refine con_enter Tryz.func187 rfl rfl rfl fun B0 r_ D_ w0 => ?_
  refine T_auto TT_ok rfl ?_
  refine RJ_Q TT_ok (isNaN_q _) rfl rfl rfl rfl rfl ?_
  refine RJ_Q TT_ok (isNaN_q _) rfl rfl rfl rfl rfl ?_
  refine T_cond rfl (fun e => by cases e) (fun _ => ?_)
  refine T_auto TT_ok rfl ?_
  refine T_cond rfl (fun e => by cases e) (fun _ => ?_)
  refine T_auto TT_ok rfl ?_
  refine T_condD rfl (fun e => ?_) (fun e => ?_)
  · refine T_auto TT_ok rfl ?_
    exact T_ansI TT_ok [(4, none)] rfl rfl (by rw [ordI, if_pos e])
  refine T_auto TT_ok rfl ?_
  refine T_condD rfl (fun e2 => ?_) (fun e2 => ?_)
  · refine T_auto TT_ok rfl ?_
    exact T_ansI TT_ok [(4, none)] rfl rfl (by rw [ordI, if_neg e, if_pos e2])
  refine T_auto TT_ok rfl ?_
  exact T_ansI TT_ok [(4, none)] rfl rfl (by rw [ordI, if_neg e, if_neg e2])
def orL : List Int → Int
  | [] => 0
  | x :: r => if x ≠ 0 then x else orL r
theorem orL_at : ∀ {xs : List Int} {i : Nat}, i < xs.length → (∀ j, j < i → xs.getD j 0 = 0) → xs.getD i 0 ≠ 0 → orL xs = xs.getD i 0
  | x :: r, 0, _, _, h => by simp at h; simp [orL, h]
  | x :: r, i + 1, hi, h0, h => by
    have hx : x = 0 := by simpa using h0 0 (by omega)
    simp only [orL, hx]
    simp only [ne_eq, not_true_eq_false, if_false]
    rw [orL_at (by simpa using hi) (fun j hj => by simpa using h0 (j + 1) (by omega)) (by simpa using h)]
    simp
theorem orL_no : ∀ {xs : List Int}, (∀ j, j < xs.length → xs.getD j 0 = 0) → orL xs = 0
  | [], _ => rfl
  | x :: r, h => by
    have hx : x = 0 := by simpa using h 0 (by simp)
    simp only [orL, hx, ne_eq, not_true_eq_false, if_false]
    exact orL_no fun j hj => by simpa using h (j + 1) (by simpa using hj)
theorem before_succ {P : Nat → Prop} {i : Nat} (h : ∀ j, j < i → P j) (k : P i) : ∀ j, j < i + 1 → P j := fun j hj => by
  by_cases e : j = i
  · subst e; exact k
  · exact h j (by omega)
theorem cmpOr_q (xs : List Int) (hl : xs.length ≤ maxL) : Ans Tryz.prog 186 [] [vL 1 cInt 0 xs] [] (vI (orL xs)) := by
  unfold maxL at hl
  refine con_enter Tryz.func186 rfl rfl rfl fun B0 r_ D_ w0 => ?_
  refine T_auto TT_ok rfl ?_
  refine T_loopA (ι := Nat) (fun i => [(8, vI i)]) (fun _ => []) (fun i => i ≤ xs.length ∧ ∀ j, j < i → xs.getD j 0 = 0) (fun i => xs.length - i) 0 [] [] rfl rfl ⟨Nat.zero_le _, fun j hj => absurd hj (Nat.not_lt_zero _)⟩ (by repeat (first | exact trivial | refine And.intro ⟨_, rfl, SV.imp_refl _⟩ ?_)) (by repeat (first | exact trivial | refine And.intro ⟨_, rfl, Ch.imp_refl _⟩ ?_)) ?_
  intro i ⟨h1, h2⟩
  refine T_auto TT_ok rfl ?_
  refine T_condD rfl (fun e => ?_) (fun e => ?_)
  · refine T_auto TT_ok rfl ?_
    refine T_condN rfl (fun e2 => ?_) (fun e2 => ?_)
    · refine T_auto TT_ok rfl ?_
      exact T_ansI TT_ok [(2, none)] rfl rfl ((orL_at (by omega) h2 (by simpa using e2)).symm)
    · refine T_auto TT_ok rfl ?_
      exact X_inv (i + 1) ⟨by omega, before_succ h2 (by simpa using e2)⟩ (by omega) (by repeat (first | exact trivial | refine And.intro ⟨_, rfl, SV.imp_refl _⟩ ?_)) (by repeat (first | exact trivial | refine And.intro ⟨_, rfl, Ch.imp_refl _⟩ ?_))
  · refine T_auto TT_ok rfl ?_
    exact T_ansI TT_ok [(2, none)] rfl rfl ((orL_no fun j hj => h2 j (by omega)).symm)
def cmpC (r s q t : Int) : Int := orL [ordI r q, ordI s t]
theorem cmpC_less {r s q t : Int} : decide (cmpC r s q t < 0) = lessB r s q t := by
  unfold cmpC lessB orL orL ordI
  by_cases h : r < q
  · simp [h]
  · by_cases h2 : r = q
    · subst h2; by_cases h3 : s < t <;> by_cases h4 : s > t <;> simp [h3, h4, orL]
    · have : r > q := by omega
      simp [h, h2, this, orL]
theorem cmpC_ge {r s q t : Int} : decide (cmpC r s q t ≥ 0) = !lessB r s q t := by
  rw [← cmpC_less]
  by_cases h : cmpC r s q t < 0
  · rw [decide_eq_true h, decide_eq_false (by omega)]; rfl
  · rw [decide_eq_false h, decide_eq_true (by omega)]; rfl
theorem compareCells_q (a b c d : Int) : Ans Tryz.prog 146 [] [vI a, vI b, vI c, vI d] [] (vI (cmpC a b c d)) := by
  refine con_enter Tryz.func146 rfl rfl rfl fun B0 r_ D_ w0 => ?_
  refine T_auto TT_ok rfl ?_
  refine RJ_Q TT_ok (compare_q _ _) rfl rfl rfl rfl rfl ?_
  refine RJ_Q TT_ok (compare_q _ _) rfl rfl rfl rfl rfl ?_
  refine RJ_bs TT_ok 900 (fun i => cInt ([ordI a c, ordI b d].getD i 0)) rfl rfl rfl rfl rfl rfl rfl (fun i hi => by rcases i with _ | _ | i <;> first | rfl | omega) (mu1 := []) rfl rfl rfl ?_
  refine RJ_auto TT_ok rfl ?_
  refine RJ_Q TT_ok (cmpOr_q [ordI a c, ordI b d] (Nat.le_of_ble_eq_true rfl)) rfl rfl rfl rfl rfl ?_
  exact T_ansI TT_ok [(8, none)] rfl rfl (rfl)
end

section
set_option maxRecDepth 4000


open Classical in
noncomputable def dec (p : Prop) : Bool := if p then true else false
theorem dec_true {p : Prop} (h : p) : dec p = true := by simp [dec, h]
theorem dec_false {p : Prop} (h : ¬ p) : dec p = false := by simp [dec, h]
theorem dec_iff {p : Prop} : dec p = true ↔ p := by simp [dec]
theorem dec_not {p : Prop} : dec p = false ↔ ¬ p := by simp [dec]
def lessN (a b : GNote) : Prop := a.region < b.region ∨ a.region = b.region ∧ a.slot < b.slot
def lessS (a b : GSet) : Prop := a.region < b.region ∨ a.region = b.region ∧ a.slot < b.slot
/-- rising, and each right -/
def readsOk (xs : List GNote) (n : Nat) : Prop := ∀ j, j < n → noteB (xs.getD j GNote.z) = true ∧ (0 < j → lessN (xs.getD (j - 1) GNote.z) (xs.getD j GNote.z))
def setsOk (xs : List GSet) (n : Nat) : Prop := ∀ j, j < n → setB (xs.getD j GSet.z) = true ∧ (0 < j → lessS (xs.getD (j - 1) GSet.z) (xs.getD j GSet.z))
def headOk (t : GTx) : Prop := (1 ≤ t.id ∧ t.id ≤ 1000000) ∧ (0 ≤ t.home ∧ t.home ≤ 7) ∧ (1 ≤ t.phase ∧ t.phase ≤ 9) ∧ (0 ≤ t.done ∧ t.done ≤ 1000) ∧ (0 ≤ t.stamp ∧ t.stamp ≤ 1000000) ∧ t.reads.length ≤ 12 ∧ t.sets.length ≤ 12
def TxOk (t : GTx) : Prop := headOk t ∧ readsOk t.reads t.reads.length ∧ setsOk t.sets t.sets.length
theorem readsOk.succ {xs : List GNote} {i : Nat} (h : readsOk xs i) (h1 : noteB (xs.getD i GNote.z) = true) (h2 : 0 < i → lessN (xs.getD (i - 1) GNote.z) (xs.getD i GNote.z)) : readsOk xs (i + 1) := fun j hj => by
  rcases Nat.lt_succ_iff_lt_or_eq.1 hj with h3 | h3
  · exact h j h3
  · subst h3; exact ⟨h1, h2⟩
theorem setsOk.succ {xs : List GSet} {i : Nat} (h : setsOk xs i) (h1 : setB (xs.getD i GSet.z) = true) (h2 : 0 < i → lessS (xs.getD (i - 1) GSet.z) (xs.getD i GSet.z)) : setsOk xs (i + 1) := fun j hj => by
  rcases Nat.lt_succ_iff_lt_or_eq.1 hj with h3 | h3
  · exact h j h3
  · subst h3; exact ⟨h1, h2⟩
theorem toNat_pred {i : Nat} (h : 0 < i) : ((i : Int) - 1).toNat = i - 1 := by omega

theorem spec_TxOk_q (t : GTx) : Ans Tryz.prog 114 [] [vR (cTx t)] [] (vB (dec (TxOk t))) := by
  refine con_enter Tryz.func114 rfl rfl rfl fun B0 r_ D_ w0 => ?_
  refine T_auto TT_ok rfl ?_
  refine RJ_Q TT_ok (spec_l1Id_q _) rfl rfl rfl rfl rfl ?_
  refine RJ_Q TT_ok (spec_l1Machine_q _) rfl rfl rfl rfl rfl ?_
  refine RJ_Q TT_ok (spec_l1In_q _ _ _) rfl rfl rfl rfl rfl ?_
  refine RJ_Q TT_ok (spec_l1In_q _ _ _) rfl rfl rfl rfl rfl ?_
  refine RJ_Q TT_ok (spec_l1In_q _ _ _) rfl rfl rfl rfl rfl ?_
  refine T_cond rfl (fun e => ?_) (fun e => ?_)
  · refine T_auto TT_ok rfl ?_
    refine (?_ : ¬ TxOk t → _) ?_
    · intro hf
      exact T_ansB TT_ok [(2, none)] rfl rfl ((dec_false hf).symm)
    intro h
    obtain ⟨⟨h1, h2, h3, h4, h5, h6, h7⟩, _⟩ := h
    simp only [inB_iff.2 h1, inB_iff.2 h2, inB_iff.2 h3, inB_iff.2 h4, inB_iff.2 h5] at e
    simp at e
    omega
  have hH : headOk t := by
    simp only [Bool.cond_true_left, Bool.or_eq_false_iff, Bool.not_eq_false', inB_iff, decide_eq_false_iff_not] at e
    unfold headOk
    omega
  clear e
  have hr1 : t.reads.length ≤ 12 := hH.2.2.2.2.2.1
  have hr2 : t.sets.length ≤ 12 := hH.2.2.2.2.2.2
  refine T_auto TT_ok rfl ?_
  refine T_loopA (ι := Nat) (fun i => [(3, vI i)]) (fun _ => []) (fun i => i ≤ t.reads.length ∧ readsOk t.reads i) (fun i => t.reads.length - i) 0 [] [] rfl rfl ⟨Nat.zero_le _, fun j hj => absurd hj (Nat.not_lt_zero _)⟩ (by repeat (first | exact trivial | refine And.intro ⟨_, rfl, SV.imp_refl _⟩ ?_)) (by repeat (first | exact trivial | refine And.intro ⟨_, rfl, Ch.imp_refl _⟩ ?_)) ?_
  intro i ⟨h1, h2⟩
  refine T_auto TT_ok rfl ?_
  refine T_condD rfl (fun e => ?_) (fun e => ?_)
  · have hi : i < t.reads.length := by omega
    refine T_auto TT_ok rfl ?_
    refine T_drawA TT_ok [] rfl rfl fun B0 H0 => ?_
    refine DJ_Q TT_ok (spec_l7Note_q _) rfl rfl rfl rfl rfl rfl ?_
    refine DJ_Q TT_ok (spec_l7Less_q _ _ _ _) rfl rfl rfl rfl rfl rfl ?_
    refine DJ_endA TT_ok rfl ?_
    refine T_cond rfl (fun e1 => ?_) (fun e1 => ?_) <;> simp only [Int.toNat_natCast] at e1
    · refine T_auto TT_ok rfl ?_
      refine (?_ : ¬ TxOk t → _) ?_
      · intro hf
        exact T_ansB TT_ok [(2, none)] rfl rfl ((dec_false hf).symm)
      intro h
      obtain ⟨g1, g2⟩ := h.2.1 i hi
      simp only [g1] at e1
      by_cases hp : 0 < i
      · rw [toNat_pred hp, lessB_iff.2 (g2 hp)] at e1
        simp at e1
      · simp [show i = 0 from by omega] at e1
    · have g1 : noteB (t.reads.getD i GNote.z) = true := by
        cases hb : noteB (t.reads.getD i GNote.z) with
        | true => rfl
        | false => rw [hb] at e1; simp at e1
      have g2 : 0 < i → lessN (t.reads.getD (i - 1) GNote.z) (t.reads.getD i GNote.z) := fun hp => by
        rw [toNat_pred hp] at e1
        simp only [g1] at e1
        refine lessB_iff.1 ?_
        simpa [hp] using e1
      refine T_auto TT_ok rfl ?_
      exact X_inv (i + 1) ⟨hi, readsOk.succ h2 g1 g2⟩ (by omega) (by repeat (first | exact trivial | refine And.intro ⟨_, rfl, SV.imp_refl _⟩ ?_)) (by repeat (first | exact trivial | refine And.intro ⟨_, rfl, Ch.imp_refl _⟩ ?_))
  have hi : i = t.reads.length := by omega
  subst hi
  have h3 : readsOk t.reads t.reads.length := h2
  clear h2 h1 e
  refine T_auto TT_ok rfl ?_
  refine T_loopA (ι := Nat) (fun i => [(5, vI i)]) (fun _ => []) (fun i => i ≤ t.sets.length ∧ setsOk t.sets i) (fun i => t.sets.length - i) 0 [] [] rfl rfl ⟨Nat.zero_le _, fun j hj => absurd hj (Nat.not_lt_zero _)⟩ (by repeat (first | exact trivial | refine And.intro ⟨_, rfl, SV.imp_refl _⟩ ?_)) (by repeat (first | exact trivial | refine And.intro ⟨_, rfl, Ch.imp_refl _⟩ ?_)) ?_
  intro i ⟨h1, h4⟩
  refine T_auto TT_ok rfl ?_
  refine T_condD rfl (fun e => ?_) (fun e => ?_)
  · have hi : i < t.sets.length := by omega
    refine T_auto TT_ok rfl ?_
    refine T_drawA TT_ok [] rfl rfl fun B0 H0 => ?_
    refine DJ_Q TT_ok (spec_SetOk_q _) rfl rfl rfl rfl rfl rfl ?_
    refine DJ_Q TT_ok (spec_l7Less_q _ _ _ _) rfl rfl rfl rfl rfl rfl ?_
    refine DJ_endA TT_ok rfl ?_
    refine T_cond rfl (fun e1 => ?_) (fun e1 => ?_) <;> simp only [Int.toNat_natCast] at e1
    · refine T_auto TT_ok rfl ?_
      refine (?_ : ¬ TxOk t → _) ?_
      · intro hf
        exact T_ansB TT_ok [(2, none)] rfl rfl ((dec_false hf).symm)
      intro h
      obtain ⟨g1, g2⟩ := h.2.2 i hi
      simp only [g1] at e1
      by_cases hp : 0 < i
      · rw [toNat_pred hp, lessB_iff.2 (g2 hp)] at e1
        simp at e1
      · simp [show i = 0 from by omega] at e1
    · have g1 : setB (t.sets.getD i GSet.z) = true := by
        cases hb : setB (t.sets.getD i GSet.z) with
        | true => rfl
        | false => rw [hb] at e1; simp at e1
      have g2 : 0 < i → lessS (t.sets.getD (i - 1) GSet.z) (t.sets.getD i GSet.z) := fun hp => by
        rw [toNat_pred hp] at e1
        simp only [g1] at e1
        refine lessB_iff.1 ?_
        simpa [hp] using e1
      refine T_auto TT_ok rfl ?_
      exact X_inv (i + 1) ⟨hi, setsOk.succ h4 g1 g2⟩ (by omega) (by repeat (first | exact trivial | refine And.intro ⟨_, rfl, SV.imp_refl _⟩ ?_)) (by repeat (first | exact trivial | refine And.intro ⟨_, rfl, Ch.imp_refl _⟩ ?_))
  have hi : i = t.sets.length := by omega
  subst hi
  have h5 : setsOk t.sets t.sets.length := h4
  clear h4 h1 e
  refine T_auto TT_ok rfl ?_
  exact T_ansB TT_ok [(2, none)] rfl rfl ((dec_true ⟨hH, h3, h5⟩).symm)
theorem impl_isTx_q (t : GTx) : Ans Tryz.prog 79 [] [vR (cTx t)] [] (vB (dec (TxOk t))) := by
  refine con_enter Tryz.func79 rfl rfl rfl fun B0 r_ D_ w0 => ?_
  refine T_auto TT_ok rfl ?_
  refine RJ_Q TT_ok (impl_isId_q _) rfl rfl rfl rfl rfl ?_
  refine RJ_Q TT_ok (impl_isMachine_q _) rfl rfl rfl rfl rfl ?_
  refine RJ_Q TT_ok (impl_within_q _ _ _) rfl rfl rfl rfl rfl ?_
  refine RJ_Q TT_ok (impl_within_q _ _ _) rfl rfl rfl rfl rfl ?_
  refine RJ_Q TT_ok (impl_within_q _ _ _) rfl rfl rfl rfl rfl ?_
  refine T_cond rfl (fun e => ?_) (fun e => ?_)
  · refine T_auto TT_ok rfl ?_
    refine (?_ : ¬ TxOk t → _) ?_
    · intro hf
      exact T_ansB TT_ok [(2, none)] rfl rfl ((dec_false hf).symm)
    intro h
    obtain ⟨⟨h1, h2, h3, h4, h5, h6, h7⟩, _⟩ := h
    simp only [inB_iff.2 h1, inB_iff.2 h2, inB_iff.2 h3, inB_iff.2 h4, inB_iff.2 h5] at e
    simp at e
    omega
  have hH : headOk t := by
    simp only [Bool.cond_true_left, Bool.or_eq_false_iff, Bool.not_eq_false', inB_iff, decide_eq_false_iff_not] at e
    unfold headOk
    omega
  clear e
  have hr1 : t.reads.length ≤ 12 := hH.2.2.2.2.2.1
  have hr2 : t.sets.length ≤ 12 := hH.2.2.2.2.2.2
  refine T_auto TT_ok rfl ?_
  refine T_loopA (ι := Nat) (fun i => [(50, vI i)]) (fun _ => []) (fun i => i ≤ t.reads.length ∧ readsOk t.reads i) (fun i => t.reads.length - i) 0 [] [] rfl rfl ⟨Nat.zero_le _, fun j hj => absurd hj (Nat.not_lt_zero _)⟩ (by repeat (first | exact trivial | refine And.intro ⟨_, rfl, SV.imp_refl _⟩ ?_)) (by repeat (first | exact trivial | refine And.intro ⟨_, rfl, Ch.imp_refl _⟩ ?_)) ?_
  intro i ⟨h1, h2⟩
  refine T_auto TT_ok rfl ?_
  refine T_condD rfl (fun e => ?_) (fun e => ?_)
  · have hi : i < t.reads.length := by omega
    refine T_auto TT_ok rfl ?_
    refine T_drawA TT_ok [] rfl rfl fun B0 H0 => ?_
    refine DJ_Q TT_ok (impl_isNote_q _) rfl rfl rfl rfl rfl rfl ?_
    refine DJ_Q TT_ok (compareCells_q _ _ _ _) rfl rfl rfl rfl rfl rfl ?_
    refine DJ_endA TT_ok rfl ?_
    refine T_cond rfl (fun e1 => ?_) (fun e1 => ?_) <;> simp only [Int.toNat_natCast] at e1
    · refine T_auto TT_ok rfl ?_
      refine (?_ : ¬ TxOk t → _) ?_
      · intro hf
        exact T_ansB TT_ok [(2, none)] rfl rfl ((dec_false hf).symm)
      intro h
      obtain ⟨g1, g2⟩ := h.2.1 i hi
      simp only [cmpC_ge, g1] at e1
      by_cases hp : 0 < i
      · rw [toNat_pred hp, lessB_iff.2 (g2 hp)] at e1
        simp at e1
      · simp [show i = 0 from by omega] at e1
    · have g1 : noteB (t.reads.getD i GNote.z) = true := by
        cases hb : noteB (t.reads.getD i GNote.z) with
        | true => rfl
        | false => rw [hb] at e1; simp at e1
      have g2 : 0 < i → lessN (t.reads.getD (i - 1) GNote.z) (t.reads.getD i GNote.z) := fun hp => by
        rw [toNat_pred hp] at e1
        simp only [cmpC_ge, g1] at e1
        refine lessB_iff.1 ?_
        simpa [hp] using e1
      refine T_auto TT_ok rfl ?_
      exact X_inv (i + 1) ⟨hi, readsOk.succ h2 g1 g2⟩ (by omega) (by repeat (first | exact trivial | refine And.intro ⟨_, rfl, SV.imp_refl _⟩ ?_)) (by repeat (first | exact trivial | refine And.intro ⟨_, rfl, Ch.imp_refl _⟩ ?_))
  have hi : i = t.reads.length := by omega
  subst hi
  have h3 : readsOk t.reads t.reads.length := h2
  clear h2 h1 e
  refine T_auto TT_ok rfl ?_
  refine T_loopA (ι := Nat) (fun i => [(88, vI i)]) (fun _ => []) (fun i => i ≤ t.sets.length ∧ setsOk t.sets i) (fun i => t.sets.length - i) 0 [] [] rfl rfl ⟨Nat.zero_le _, fun j hj => absurd hj (Nat.not_lt_zero _)⟩ (by repeat (first | exact trivial | refine And.intro ⟨_, rfl, SV.imp_refl _⟩ ?_)) (by repeat (first | exact trivial | refine And.intro ⟨_, rfl, Ch.imp_refl _⟩ ?_)) ?_
  intro i ⟨h1, h4⟩
  refine T_auto TT_ok rfl ?_
  refine T_condD rfl (fun e => ?_) (fun e => ?_)
  · have hi : i < t.sets.length := by omega
    refine T_auto TT_ok rfl ?_
    refine T_drawA TT_ok [] rfl rfl fun B0 H0 => ?_
    refine DJ_Q TT_ok (impl_isSet_q _) rfl rfl rfl rfl rfl rfl ?_
    refine DJ_Q TT_ok (compareCells_q _ _ _ _) rfl rfl rfl rfl rfl rfl ?_
    refine DJ_endA TT_ok rfl ?_
    refine T_cond rfl (fun e1 => ?_) (fun e1 => ?_) <;> simp only [Int.toNat_natCast] at e1
    · refine T_auto TT_ok rfl ?_
      refine (?_ : ¬ TxOk t → _) ?_
      · intro hf
        exact T_ansB TT_ok [(2, none)] rfl rfl ((dec_false hf).symm)
      intro h
      obtain ⟨g1, g2⟩ := h.2.2 i hi
      simp only [cmpC_ge, g1] at e1
      by_cases hp : 0 < i
      · rw [toNat_pred hp, lessB_iff.2 (g2 hp)] at e1
        simp at e1
      · simp [show i = 0 from by omega] at e1
    · have g1 : setB (t.sets.getD i GSet.z) = true := by
        cases hb : setB (t.sets.getD i GSet.z) with
        | true => rfl
        | false => rw [hb] at e1; simp at e1
      have g2 : 0 < i → lessS (t.sets.getD (i - 1) GSet.z) (t.sets.getD i GSet.z) := fun hp => by
        rw [toNat_pred hp] at e1
        simp only [cmpC_ge, g1] at e1
        refine lessB_iff.1 ?_
        simpa [hp] using e1
      refine T_auto TT_ok rfl ?_
      exact X_inv (i + 1) ⟨hi, setsOk.succ h4 g1 g2⟩ (by omega) (by repeat (first | exact trivial | refine And.intro ⟨_, rfl, SV.imp_refl _⟩ ?_)) (by repeat (first | exact trivial | refine And.intro ⟨_, rfl, Ch.imp_refl _⟩ ?_))
  have hi : i = t.sets.length := by omega
  subst hi
  have h5 : setsOk t.sets t.sets.length := h4
  clear h4 h1 e
  refine T_auto TT_ok rfl ?_
  exact T_ansB TT_ok [(2, none)] rfl rfl ((dec_true ⟨hH, h3, h5⟩).symm)
open Classical in
/-- what a client was told: 1 committed, 2 aborted, 0 nothing -/
noncomputable def toldM (t : GTx) : Int := if TxOk t then (if t.phase = 5 ∧ t.done > 0 ∨ t.phase = 6 ∨ t.phase = 7 then 1 else if t.phase = 8 ∨ t.phase = 9 then 2 else 0) else -1
def doneB (t : GTx) : Bool := decide (t.phase = 5 ∧ t.done > 0 ∨ t.phase = 6 ∨ t.phase = 7)
end
end Go.Proofs.YtpfcfepbhdkpdaaGreat
