
/-
  Numbers in ranges; notes, Sets, the order of cells, on both sides.
-/
import Derived.Test.YtiegllklalplnaaGreatW20
namespace Go.Proofs.YtiegllklalplnaaGreat
open Go Go.RowKit
set_option linter.unusedVariables false
set_option linter.unusedSimpArgs false
set_option maxRecDepth 4000

structure GSet where
  region : Int
  slot : Int
  value : Int
  used : Bool
  version : Int
def GSet.z : GSet := ⟨0, 0, 0, false, 0⟩
structure GNote where
  region : Int
  slot : Int
  version : Int
  value : Int
  used : Bool
def GNote.z : GNote := ⟨0, 0, 0, 0, false⟩
structure GCell where
  head : Int
  value : Int
def GCell.z : GCell := ⟨0, 0⟩
structure GOp where
  kind : Int
  id : Int
  a : Int
  b : Int
  c : Int
def GOp.z : GOp := ⟨0, 0, 0, 0, 0⟩
structure GTx where
  id : Int
  home : Int
  phase : Int
  done : Int
  reads : List GNote
  sets : List GSet
  stamp : Int
def GTx.z : GTx := ⟨0, 0, 0, 0, [], [], 0⟩
abbrev dI (x : Int) : D := .v (.int .i64 x)
abbrev dB (x : Bool) : D := .v (.bool x)
def cInt (n : Int) : List D := [dI n]
def cBool (n : Bool) : List D := [dB n]
def cSet (n : GSet) : List D := [dI n.region, dI n.slot, dI n.value, dB n.used, dI n.version]
def cNote (n : GNote) : List D := [dI n.region, dI n.slot, dI n.version, dI n.value, dB n.used]
def cCell (n : GCell) : List D := [dI n.head, dI n.value]
def cOp (n : GOp) : List D := [dI n.kind, dI n.id, dI n.a, dI n.b, dI n.c]
def cTx (t : GTx) : List D := [dI t.id, dI t.home, dI t.phase, dI t.done, dL 5 cNote GNote.z t.reads, dL 5 cSet GSet.z t.sets, dI t.stamp]

def inB (x lo hi : Int) : Bool := bif decide (x ≥ lo) then decide (x ≤ hi) else false
theorem inB_iff {x lo hi : Int} : inB x lo hi = true ↔ lo ≤ x ∧ x ≤ hi := by
  unfold inB
  by_cases h : x ≥ lo <;> simp [h]
theorem inB_not {x lo hi : Int} : inB x lo hi = false ↔ ¬ (lo ≤ x ∧ x ≤ hi) := by rw [← inB_iff]; simp
theorem spec_l1In_q (x lo hi : Int) : Ans Tryz.prog 48 [] [vI x, vI lo, vI hi] [] (vB (inB x lo hi)) := by
  refine con_enter Tryz.func48 rfl rfl rfl fun B0 r D w0 => ?_
  refine T_auto TT_ok rfl ?_
  exact T_ansB TT_ok [(6, none)] rfl rfl (rfl)
theorem impl_within_q (x lo hi : Int) : Ans Tryz.prog 75 [] [vI x, vI lo, vI hi] [] (vB (inB x lo hi)) := by
  refine con_enter Tryz.func75 rfl rfl rfl fun B0 r D w0 => ?_
  refine T_auto TT_ok rfl ?_
  exact T_ansB TT_ok [(6, none)] rfl rfl (rfl)
theorem spec_l1Id_q (x : Int) : Ans Tryz.prog 47 [] [vI x] [] (vB (inB x (1) 1000000)) := by
  refine con_enter Tryz.func47 rfl rfl rfl fun B0 r D w0 => ?_
  refine T_auto TT_ok rfl ?_
  refine RJ_Q TT_ok (spec_l1In_q _ _ _) rfl rfl rfl rfl rfl ?_
  exact T_ansB TT_ok [(2, none)] rfl rfl (rfl)
theorem spec_l1Machine_q (x : Int) : Ans Tryz.prog 104 [] [vI x] [] (vB (inB x (0) 7)) := by
  refine con_enter Tryz.func104 rfl rfl rfl fun B0 r D w0 => ?_
  refine T_auto TT_ok rfl ?_
  refine RJ_Q TT_ok (spec_l1In_q _ _ _) rfl rfl rfl rfl rfl ?_
  exact T_ansB TT_ok [(2, none)] rfl rfl (rfl)
theorem spec_l1Region_q (x : Int) : Ans Tryz.prog 107 [] [vI x] [] (vB (inB x (0) 5)) := by
  refine con_enter Tryz.func107 rfl rfl rfl fun B0 r D w0 => ?_
  refine T_auto TT_ok rfl ?_
  refine RJ_Q TT_ok (spec_l1In_q _ _ _) rfl rfl rfl rfl rfl ?_
  exact T_ansB TT_ok [(2, none)] rfl rfl (rfl)
theorem spec_l1Slot_q (x : Int) : Ans Tryz.prog 165 [] [vI x] [] (vB (inB x (0) 5)) := by
  refine con_enter Tryz.func165 rfl rfl rfl fun B0 r D w0 => ?_
  refine T_auto TT_ok rfl ?_
  refine RJ_Q TT_ok (spec_l1In_q _ _ _) rfl rfl rfl rfl rfl ?_
  exact T_ansB TT_ok [(2, none)] rfl rfl (rfl)
theorem spec_l1Value_q (x : Int) : Ans Tryz.prog 162 [] [vI x] [] (vB (inB x (-1000000000) 1000000000)) := by
  refine con_enter Tryz.func162 rfl rfl rfl fun B0 r D w0 => ?_
  refine T_auto TT_ok rfl ?_
  refine RJ_Q TT_ok (spec_l1In_q _ _ _) rfl rfl rfl rfl rfl ?_
  exact T_ansB TT_ok [(2, none)] rfl rfl (rfl)
theorem spec_l1Version_q (x : Int) : Ans Tryz.prog 166 [] [vI x] [] (vB (inB x (0) 1000000)) := by
  refine con_enter Tryz.func166 rfl rfl rfl fun B0 r D w0 => ?_
  refine T_auto TT_ok rfl ?_
  refine RJ_Q TT_ok (spec_l1In_q _ _ _) rfl rfl rfl rfl rfl ?_
  exact T_ansB TT_ok [(2, none)] rfl rfl (rfl)
theorem spec_HeadOk_q (x : Int) : Ans Tryz.prog 127 [] [vI x] [] (vB (inB x (0) 4000003)) := by
  refine con_enter Tryz.func127 rfl rfl rfl fun B0 r D w0 => ?_
  refine T_auto TT_ok rfl ?_
  refine RJ_Q TT_ok (spec_l1In_q _ _ _) rfl rfl rfl rfl rfl ?_
  exact T_ansB TT_ok [(2, none)] rfl rfl (rfl)
theorem impl_isId_q (x : Int) : Ans Tryz.prog 99 [] [vI x] [] (vB (inB x (1) 1000000)) := by
  refine con_enter Tryz.func99 rfl rfl rfl fun B0 r D w0 => ?_
  refine T_auto TT_ok rfl ?_
  refine RJ_Q TT_ok (impl_within_q _ _ _) rfl rfl rfl rfl rfl ?_
  exact T_ansB TT_ok [(2, none)] rfl rfl (rfl)
theorem impl_isMachine_q (x : Int) : Ans Tryz.prog 173 [] [vI x] [] (vB (inB x (0) 7)) := by
  refine con_enter Tryz.func173 rfl rfl rfl fun B0 r D w0 => ?_
  refine T_auto TT_ok rfl ?_
  refine RJ_Q TT_ok (impl_within_q _ _ _) rfl rfl rfl rfl rfl ?_
  exact T_ansB TT_ok [(2, none)] rfl rfl (rfl)
theorem impl_isRegion_q (x : Int) : Ans Tryz.prog 178 [] [vI x] [] (vB (inB x (0) 5)) := by
  refine con_enter Tryz.func178 rfl rfl rfl fun B0 r D w0 => ?_
  refine T_auto TT_ok rfl ?_
  refine RJ_Q TT_ok (impl_within_q _ _ _) rfl rfl rfl rfl rfl ?_
  exact T_ansB TT_ok [(2, none)] rfl rfl (rfl)
theorem impl_isSlot_q (x : Int) : Ans Tryz.prog 211 [] [vI x] [] (vB (inB x (0) 5)) := by
  refine con_enter Tryz.func211 rfl rfl rfl fun B0 r D w0 => ?_
  refine T_auto TT_ok rfl ?_
  refine RJ_Q TT_ok (impl_within_q _ _ _) rfl rfl rfl rfl rfl ?_
  exact T_ansB TT_ok [(2, none)] rfl rfl (rfl)
theorem impl_isValue_q (x : Int) : Ans Tryz.prog 210 [] [vI x] [] (vB (inB x (-1000000000) 1000000000)) := by
  refine con_enter Tryz.func210 rfl rfl rfl fun B0 r D w0 => ?_
  refine T_auto TT_ok rfl ?_
  refine RJ_Q TT_ok (impl_within_q _ _ _) rfl rfl rfl rfl rfl ?_
  exact T_ansB TT_ok [(2, none)] rfl rfl (rfl)
theorem impl_isHead_q (x : Int) : Ans Tryz.prog 209 [] [vI x] [] (vB (inB x (0) 4000003)) := by
  refine con_enter Tryz.func209 rfl rfl rfl fun B0 r D w0 => ?_
  refine T_auto TT_ok rfl ?_
  refine RJ_Q TT_ok (impl_within_q _ _ _) rfl rfl rfl rfl rfl ?_
  exact T_ansB TT_ok [(2, none)] rfl rfl (rfl)
def noteB (n : GNote) : Bool := bif (bif (bif inB n.region 0 5 then inB n.slot 0 5 else false) then inB n.version 0 1000000 else false) then inB n.value (-1000000000) 1000000000 else false
def setB (s : GSet) : Bool := bif (bif (bif inB s.region 0 5 then inB s.slot 0 5 else false) then inB s.value (-1000000000) 1000000000 else false) then inB s.version 0 999999 else false
theorem spec_l7Note_q (n : GNote) : Ans Tryz.prog 110 [] [vR (cNote n)] [] (vB (noteB n)) := by
  refine con_enter Tryz.func110 rfl rfl rfl fun B0 r D w0 => ?_
  refine T_auto TT_ok rfl ?_
  refine RJ_Q TT_ok (spec_l1Region_q _) rfl rfl rfl rfl rfl ?_
  refine RJ_Q TT_ok (spec_l1Slot_q _) rfl rfl rfl rfl rfl ?_
  refine RJ_Q TT_ok (spec_l1Version_q _) rfl rfl rfl rfl rfl ?_
  refine RJ_Q TT_ok (spec_l1Value_q _) rfl rfl rfl rfl rfl ?_
  exact T_ansB TT_ok [(2, none)] rfl rfl (rfl)
theorem impl_isNote_q (n : GNote) : Ans Tryz.prog 180 [] [vR (cNote n)] [] (vB (noteB n)) := by
  refine con_enter Tryz.func180 rfl rfl rfl fun B0 r D w0 => ?_
  refine T_auto TT_ok rfl ?_
  refine RJ_Q TT_ok (impl_isRegion_q _) rfl rfl rfl rfl rfl ?_
  refine RJ_Q TT_ok (impl_isSlot_q _) rfl rfl rfl rfl rfl ?_
  refine RJ_Q TT_ok (impl_within_q _ _ _) rfl rfl rfl rfl rfl ?_
  refine RJ_Q TT_ok (impl_isValue_q _) rfl rfl rfl rfl rfl ?_
  exact T_ansB TT_ok [(2, none)] rfl rfl (rfl)
theorem spec_SetOk_q (n : GSet) : Ans Tryz.prog 112 [] [vR (cSet n)] [] (vB (setB n)) := by
  refine con_enter Tryz.func112 rfl rfl rfl fun B0 r D w0 => ?_
  refine T_auto TT_ok rfl ?_
  refine RJ_Q TT_ok (spec_l1Region_q _) rfl rfl rfl rfl rfl ?_
  refine RJ_Q TT_ok (spec_l1Slot_q _) rfl rfl rfl rfl rfl ?_
  refine RJ_Q TT_ok (spec_l1Value_q _) rfl rfl rfl rfl rfl ?_
  refine RJ_Q TT_ok (spec_l1In_q _ _ _) rfl rfl rfl rfl rfl ?_
  exact T_ansB TT_ok [(2, none)] rfl rfl (rfl)
theorem impl_isSet_q (n : GSet) : Ans Tryz.prog 182 [] [vR (cSet n)] [] (vB (setB n)) := by
  refine con_enter Tryz.func182 rfl rfl rfl fun B0 r D w0 => ?_
  refine T_auto TT_ok rfl ?_
  refine RJ_Q TT_ok (impl_isRegion_q _) rfl rfl rfl rfl rfl ?_
  refine RJ_Q TT_ok (impl_isSlot_q _) rfl rfl rfl rfl rfl ?_
  refine RJ_Q TT_ok (impl_isValue_q _) rfl rfl rfl rfl rfl ?_
  refine RJ_Q TT_ok (impl_within_q _ _ _) rfl rfl rfl rfl rfl ?_
  exact T_ansB TT_ok [(2, none)] rfl rfl (rfl)
def lessB (r s q t : Int) : Bool := bif decide (r < q) then true else bif r == q then decide (s < t) else false
theorem lessB_iff {r s q t : Int} : lessB r s q t = true ↔ r < q ∨ r = q ∧ s < t := by
  unfold lessB
  by_cases h : r < q <;> by_cases h2 : r = q <;> simp [h, h2]
theorem spec_l7Less_q (a b c d : Int) : Ans Tryz.prog 111 [] [vI a, vI b, vI c, vI d] [] (vB (lessB a b c d)) := by
  refine con_enter Tryz.func111 rfl rfl rfl fun B0 r D w0 => ?_
  refine T_auto TT_ok rfl ?_
  exact T_ansB TT_ok [(8, none)] rfl rfl (rfl)
def ordI (a b : Int) : Int := if a < b then -1 else if a > b then 1 else 0
theorem isNaN_q (a : Int) : Ans Tryz.prog 220 [] [vI a] [] (vB false) := by
  refine con_enter Tryz.func220 rfl rfl rfl fun B0 r D w0 => ?_
  refine T_auto TT_ok rfl ?_
  exact T_ansB TT_ok [(2, none)] rfl rfl (by simp)
theorem compare_q (a b : Int) : Ans Tryz.prog 213 [] [vI a, vI b] [] (vI (ordI a b)) := by
  refine con_enter Tryz.func213 rfl rfl rfl fun B0 r D w0 => ?_
  refine T_auto TT_ok rfl ?_
  refine RJ_Q TT_ok (isNaN_q _) rfl rfl rfl rfl rfl ?_
  refine RJ_Q TT_ok (isNaN_q _) rfl rfl rfl rfl rfl ?_
  refine T_cond rfl (fun e => by cases e) (fun _ => ?_)
  refine T_auto TT_ok rfl ?_
  refine T_cond rfl (fun e => by cases e) (fun _ => ?_)
  refine T_auto TT_ok rfl ?_
  refine T_condD rfl (fun e => ?_) (fun e => ?_)
  · refine T_auto TT_ok rfl ?_
    exact T_ansI TT_ok [(4, none)] rfl rfl (by rw [ordI, if_pos e])
  refine T_auto TT_ok rfl ?_
  refine T_condD rfl (fun e2 => ?_) (fun e2 => ?_)
  · refine T_auto TT_ok rfl ?_
    exact T_ansI TT_ok [(4, none)] rfl rfl (by rw [ordI, if_neg e, if_pos e2])
  refine T_auto TT_ok rfl ?_
  exact T_ansI TT_ok [(4, none)] rfl rfl (by rw [ordI, if_neg e, if_neg e2])
def orL : List Int → Int
  | [] => 0
  | x :: r => if x ≠ 0 then x else orL r
theorem orL_at : ∀ {xs : List Int} {i : Nat}, i < xs.length → (∀ j, j < i → xs.getD j 0 = 0) → xs.getD i 0 ≠ 0 → orL xs = xs.getD i 0
  | x :: r, 0, _, _, h => by simp at h; simp [orL, h]
  | x :: r, i + 1, hi, h0, h => by
    have hx : x = 0 := by simpa using h0 0 (by omega)
    simp only [orL, hx]
    simp only [ne_eq, not_true_eq_false, if_false]
    rw [orL_at (by simpa using hi) (fun j hj => by simpa using h0 (j + 1) (by omega)) (by simpa using h)]
    simp
theorem orL_no : ∀ {xs : List Int}, (∀ j, j < xs.length → xs.getD j 0 = 0) → orL xs = 0
  | [], _ => rfl
  | x :: r, h => by
    have hx : x = 0 := by simpa using h 0 (by simp)
    simp only [orL, hx, ne_eq, not_true_eq_false, if_false]
    exact orL_no fun j hj => by simpa using h (j + 1) (by simpa using hj)
theorem before_succ {P : Nat → Prop} {i : Nat} (h : ∀ j, j < i → P j) (k : P i) : ∀ j, j < i + 1 → P j := fun j hj => by
  by_cases e : j = i
  · subst e; exact k
  · exact h j (by omega)
theorem cmpOr_q (xs : List Int) (hl : xs.length ≤ maxL) : Ans Tryz.prog 212 [] [vL 1 cInt 0 xs] [] (vI (orL xs)) := by
  unfold maxL at hl
  refine con_enter Tryz.func212 rfl rfl rfl fun B0 r D w0 => ?_
  refine T_auto TT_ok rfl ?_
  refine T_loopA (ι := Nat) (fun i => [(8, vI i)]) (fun _ => []) (fun i => i ≤ xs.length ∧ ∀ j, j < i → xs.getD j 0 = 0) (fun i => xs.length - i) 0 [] [] rfl rfl ⟨Nat.zero_le _, fun j hj => absurd hj (Nat.not_lt_zero _)⟩ (by repeat (first | exact trivial | refine And.intro ⟨_, rfl, SV.imp_refl _⟩ ?_)) (by repeat (first | exact trivial | refine And.intro ⟨_, rfl, Ch.imp_refl _⟩ ?_)) ?_
  intro i ⟨h1, h2⟩
  refine T_auto TT_ok rfl ?_
  refine T_condD rfl (fun e => ?_) (fun e => ?_)
  · refine T_auto TT_ok rfl ?_
    refine T_condN rfl (fun e2 => ?_) (fun e2 => ?_)
    · refine T_auto TT_ok rfl ?_
      exact T_ansI TT_ok [(2, none)] rfl rfl ((orL_at (by omega) h2 (by simpa using e2)).symm)
    · refine T_auto TT_ok rfl ?_
      exact X_inv (i + 1) ⟨by omega, before_succ h2 (by simpa using e2)⟩ (by omega) (by repeat (first | exact trivial | refine And.intro ⟨_, rfl, SV.imp_refl _⟩ ?_)) (by repeat (first | exact trivial | refine And.intro ⟨_, rfl, Ch.imp_refl _⟩ ?_))
  · refine T_auto TT_ok rfl ?_
    exact T_ansI TT_ok [(2, none)] rfl rfl ((orL_no fun j hj => h2 j (by omega)).symm)
def cmpC (r s q t : Int) : Int := orL [ordI r q, ordI s t]
theorem cmpC_less {r s q t : Int} : decide (cmpC r s q t < 0) = lessB r s q t := by
  unfold cmpC lessB orL orL ordI
  by_cases h : r < q
  · simp [h]
  · by_cases h2 : r = q
    · subst h2; by_cases h3 : s < t <;> by_cases h4 : s > t <;> simp [h3, h4, orL]
    · have : r > q := by omega
      simp [h, h2, this, orL]
theorem cmpC_ge {r s q t : Int} : decide (cmpC r s q t ≥ 0) = !lessB r s q t := by
  rw [← cmpC_less]
  by_cases h : cmpC r s q t < 0
  · rw [decide_eq_true h, decide_eq_false (by omega)]; rfl
  · rw [decide_eq_false h, decide_eq_true (by omega)]; rfl
theorem compareCells_q (a b c d : Int) : Ans Tryz.prog 181 [] [vI a, vI b, vI c, vI d] [] (vI (cmpC a b c d)) := by
  refine con_enter Tryz.func181 rfl rfl rfl fun B0 r D w0 => ?_
  refine T_auto TT_ok rfl ?_
  refine RJ_Q TT_ok (compare_q _ _) rfl rfl rfl rfl rfl ?_
  refine RJ_Q TT_ok (compare_q _ _) rfl rfl rfl rfl rfl ?_
  refine RJ_bs TT_ok 900 (fun i => cInt ([ordI a c, ordI b d].getD i 0)) rfl rfl rfl rfl rfl rfl rfl (fun i hi => by rcases i with _ | _ | i <;> first | rfl | omega) (mu1 := []) rfl rfl rfl ?_
  refine RJ_auto TT_ok rfl ?_
  refine RJ_Q TT_ok (cmpOr_q [ordI a c, ordI b d] (Nat.le_of_ble_eq_true rfl)) rfl rfl rfl rfl rfl ?_
  exact T_ansI TT_ok [(8, none)] rfl rfl (rfl)
end Go.Proofs.YtiegllklalplnaaGreat
