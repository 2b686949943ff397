/-
  Part H of what the claim leans on: memory, data, walks through the program, plain laws.
-/
import Derived.Test.YthpjoddhlkcciaaGreatMSG
import Derived.ChangeArms
import Derived.MapPlaces
namespace Go.Proofs.YthpjoddhlkcciaaGreat
open Go Go.RowKit
set_option linter.unusedVariables false
set_option linter.unusedSimpArgs false
set_option maxRecDepth 4000
theorem tell_rawP {P : Program} {B : BE} {Z : Tg → PH} {c : GCluster} {v : Value} (hv : SV.rel P B Z (vP (cCluster c)) v) : ∃ xs : List RT, (xs.map (·.1) = c.txs ∧ ∀ i, i < xs.length → RH (Z .r) (xs.getD i zT)) ∧ SV.rel P B Z (vP (cRaw c xs)) v := by
  obtain ⟨b, x, vs, e1, e2, e3⟩ := hv
  obtain ⟨xs, h1, vs', q1, q2⟩ := tell_raw (P := P) (B := B) (Z := Z) (c := c) (v := .agg vs.toArray) ⟨vs, rfl, e2⟩
  injection q1 with q1
  have q1 : vs = vs' := by simpa using q1
  subst q1
  exact ⟨xs, h1, b, x, vs, e1, q2, e3⟩
theorem impl_Serial_q (c : GCluster) (hb : D.bds bigN (cCluster c)) : Ans Tryz.prog 11 [] [vR (cCluster c)] [] (vB (serialM c).isSome) := by
  refine con_enter Tryz.func11 rfl rfl rfl fun B0 r_ D_ w0 => ?_
  refine T_auto1 TT_ok rfl ?_
  refine T_freeze 1 rfl rfl rfl rfl (fun _ => rfl) (fun _ => rfl) fun r_ => ?_
  refine T_auto TT_ok rfl ?_
  refine RJ_Q TT_ok (impl_isCluster_q c hb) rfl rfl rfl rfl rfl ?_
  refine T_condX rfl (fun e => ?_) (fun e => ?_)
  · refine T_auto TT_ok rfl ?_
    exact T_ansB TT_ok [(2, none)] rfl rfl ((by unfold serialM; rw [if_neg (dec_not.1 e)]; rfl))
  have hok := dec_iff.1 e
  refine T_tell 1 (φ := fun xs : List RT => xs.map (·.1) = c.txs ∧ ∀ i, i < xs.length → RH r_ (xs.getD i zT)) (x' := fun xs => vP (cRaw c xs)) rfl (fun B H v hv => tell_rawP hv) fun xs hx => ?_
  obtain ⟨x1, x2⟩ := hx
  refine T_auto TT_ok rfl ?_
  refine RJ_CX TT_ok (ConX.sw 900 41 (serial_x c hok xs x1 x2)) rfl rfl (SVs.imp_refl _) (fun _ => rfl) rfl rfl rfl fun q hq => ?_
  refine RJ_auto TT_ok rfl ?_
  exact T_ansB TT_ok [(2, none)] rfl rfl ((by unfold serialM; rw [if_pos hok]))
theorem impl_Final_m (c : GCluster) (hb : D.bds bigN (cCluster c)) (r0 : Int) : MkCells Tryz.prog 22 [vR (cCluster c), vI r0] (finalM c r0).1 (finalM c r0).2 := by
  have b1 : c.places.length ≤ 1048576 := hb.2.2.1.1
  refine con_enter Tryz.func22 rfl rfl rfl fun B0 r_ D_ w0 => ?_
  refine T_auto1 TT_ok rfl ?_
  refine T_freeze 2 rfl rfl rfl rfl (fun _ => rfl) (fun _ => rfl) fun r_ => ?_
  refine T_auto TT_ok rfl ?_
  refine RJ_Q TT_ok (impl_isCluster_q c hb) rfl rfl rfl rfl rfl ?_
  refine RJ_Q TT_ok (sizePlace_q _) rfl rfl rfl rfl rfl ?_
  refine RJ_Q TT_ok (impl_within_q _ _ _) rfl rfl rfl rfl rfl ?_
  rw [inB_off]
  refine T_cond rfl (fun e => ?_) (fun e => ?_)
  · have h0 : finalM c r0 = ([], false) := by
      unfold finalM
      cases hq : serialM c with
      | none => rfl
      | some q =>
        have hok := (serial_ok hq).1
        have : ¬ (0 ≤ r0 ∧ r0 < (c.places.length : Int)) := fun h => by rw [decide_eq_true h, dec_true hok] at e; cases e
        exact if_neg this
    rw [h0]
    refine T_auto TT_ok rfl ?_
    refine T_view (V_nil 4 900 2 (fun i => cCell (([] : List GCell).getD i GCell.z)) rfl rfl rfl rfl) ?_
    refine T_ret TT_ok (()) [(4, none), (5, none)] rfl rfl ?_ ?_ ?_
    · exact SVs.imp_refl _
    · exact ⟨⟨_, rfl, Ch.imp_refl _⟩, trivial⟩
    · trivial
  have hH : ClusOk c ∧ 0 ≤ r0 ∧ r0 < (c.places.length : Int) := by
    cases c1 : dec (ClusOk c) with
    | false => rw [c1] at e; cases e
    | true => rw [c1] at e; exact ⟨dec_iff.1 c1, of_decide_eq_true (by simpa using e)⟩
  obtain ⟨hok, hr⟩ := hH
  clear e
  refine T_tell 2 (φ := fun xs : List RT => xs.map (·.1) = c.txs ∧ ∀ i, i < xs.length → RH r_ (xs.getD i zT)) (x' := fun xs => vP (cRaw c xs)) rfl (fun B H v hv => tell_rawP hv) fun xs hx => ?_
  obtain ⟨x1, x2⟩ := hx
  refine T_auto TT_ok rfl ?_
  refine RJ_CX TT_ok (ConX.sw 900 41 (serial_x c hok xs x1 x2)) rfl rfl (SVs.imp_refl _) (fun _ => rfl) rfl rfl rfl fun q2 hq2 => ?_
  have hS : serialM c = repL (regs0 c.places.length) (ordC c) := by unfold serialM; rw [if_pos hok]
  rw [← hS] at hq2 ⊢
  refine RJ_auto TT_ok rfl ?_
  cases hq : serialM c with
  | none =>
    refine T_cond rfl (fun e => ?_) (fun e => by cases e)
    rw [show finalM c r0 = ([], false) from by unfold finalM; rw [hq]]
    refine T_auto TT_ok rfl ?_
    refine T_view (V_nil 4 900 2 (fun i => cCell (([] : List GCell).getD i GCell.z)) rfl rfl rfl rfl) ?_
    refine T_ret TT_ok (()) [(4, none), (5, none)] rfl rfl ?_ ?_ ?_
    · exact SVs.imp_refl _
    · exact ⟨⟨_, rfl, Ch.imp_refl _⟩, trivial⟩
    · trivial
  | some q =>
    refine T_cond rfl (fun e => by cases e) (fun e => ?_)
    have e2 := hq2 q hq
    subst e2
    obtain ⟨_, _, hqo⟩ := serial_ok hq
    rw [show finalM c r0 = (q2.getD r0.toNat [], true) from by unfold finalM; rw [hq]; exact if_pos hr]
    have q4 : 0 ≤ r0 ∧ r0 < (q2.length : Int) := by rw [hqo.len]; exact hr
    refine T_view (V_carve 41 r0 70 rfl rfl rfl rfl rfl rfl q4) ?_
    refine T_view (V_open 70 0 71 rfl rfl rfl rfl rfl rfl) ?_
    refine T_auto TT_ok rfl ?_
    refine RJ_view (V_pe 28 rfl rfl rfl) ?_
    refine RJ_auto TT_ok rfl ?_
    refine T_view (V_sw 71 900) ?_
    refine T_ret TT_ok (()) [(4, none), (5, none)] rfl rfl ?_ ?_ ?_
    · exact SVs.imp_refl _
    · exact ⟨⟨_, rfl, Ch.imp_refl _⟩, trivial⟩
    · trivial
theorem agr_bad2 {x y : GCell} (h : headB x.head = true) : (bif andI x.head 1 == 0 then !bif x.head == y.head then (bif x.value == y.value then true else false) else false else false) = true ↔ ¬ (lockedB x.head = true ∨ x = y) := by
  have e : (andI x.head 1 == 0) = !lockedB x.head := by
    rw [← locked1 h]
    cases h2 : andI x.head 1 == 0 <;> simp_all
  rw [e]; exact agr_bad
set_option maxHeartbeats 1000000 in
theorem impl_Agrees_q (c : GCluster) (hb : D.bds bigN (cCluster c)) : Ans Tryz.prog 20 [] [vR (cCluster c)] [] (vB (agreesM c)) := by
  have b1 : c.places.length ≤ 1048576 := hb.2.2.1.1
  refine con_enter Tryz.func20 rfl rfl rfl fun B0 r_ D_ w0 => ?_
  refine T_auto1 TT_ok rfl ?_
  refine T_freeze 1 rfl rfl rfl rfl (fun _ => rfl) (fun _ => rfl) fun r_ => ?_
  refine T_auto TT_ok rfl ?_
  refine RJ_Q TT_ok (impl_isCluster_q c hb) rfl rfl rfl rfl rfl ?_
  refine T_condX rfl (fun e => ?_) (fun e => ?_)
  · refine T_auto TT_ok rfl ?_
    exact T_ansB TT_ok [(2, none)] rfl rfl ((by unfold agreesM; cases hq : serialM c with | none => rfl | some q => exact absurd (serial_ok hq).1 (dec_not.1 e)))
  have hok := dec_iff.1 e
  have hp6 := hok.2.1.1
  refine T_tell 1 (φ := fun xs : List RT => xs.map (·.1) = c.txs ∧ ∀ i, i < xs.length → RH r_ (xs.getD i zT)) (x' := fun xs => vP (cRaw c xs)) rfl (fun B H v hv => tell_rawP hv) fun xs hx => ?_
  obtain ⟨x1, x2⟩ := hx
  refine T_auto TT_ok rfl ?_
  refine RJ_CX TT_ok (ConX.sw 900 41 (serial_x c hok xs x1 x2)) rfl rfl (SVs.imp_refl _) (fun _ => rfl) rfl rfl rfl fun q2 hq2 => ?_
  refine RJ_view (V_tell 1 rfl rfl (fun B H v hv => tell_backP x1 x2 hv)) ?_
  have hS : serialM c = repL (regs0 c.places.length) (ordC c) := by unfold serialM; rw [if_pos hok]
  rw [← hS] at hq2 ⊢
  refine RJ_auto TT_ok rfl ?_
  cases hq : serialM c with
  | none =>
    refine T_cond rfl (fun e => ?_) (fun e => by cases e)
    refine T_auto TT_ok rfl ?_
    exact T_ansB TT_ok [(2, none)] rfl rfl ((by unfold agreesM; rw [hq]))
  | some q =>
    refine T_cond rfl (fun e => by cases e) (fun e => ?_)
    have e2 := hq2 q hq
    subst e2
    obtain ⟨_, _, hqo⟩ := serial_ok hq
    have hql := hqo.len
    refine T_auto TT_ok rfl ?_
    refine T_loopA (ι := Nat) (fun r => [(21, vI r)]) (fun _ => []) (fun r => r ≤ c.places.length ∧ ∀ j, j < r → agrOk c q2 j) (fun r => c.places.length - r) 0 [] [] rfl rfl ⟨Nat.zero_le _, fun j hj => absurd hj (Nat.not_lt_zero _)⟩ (by repeat (first | exact trivial | refine And.intro ⟨_, rfl, SV.imp_refl _⟩ ?_)) (by repeat (first | exact trivial | refine And.intro ⟨_, rfl, Ch.imp_refl _⟩ ?_)) ?_
    intro r ⟨h1, h2⟩
    have hnext : r < c.places.length → agrOk c q2 r → ∀ j, j < r + 1 → agrOk c q2 j := fun _ h j hj => by
      by_cases c1 : j = r
      · subst c1; exact h
      · exact h2 j (by omega)
    refine T_auto TT_ok rfl ?_
    refine T_condD rfl (fun e3 => ?_) (fun e3 => ?_)
    · have e3 : (r : Int) < (q2.length : Int) := e3
      have hr : r < c.places.length := by omega
      have hpl := hok.pl hr
      have hm := hok.at (r := r) (k := 0) hr (by omega)
      have bm := bdM_any hb (mAt c r 0).toNat
      have hpq := impl_primary_q c hok (r : Int) ⟨by omega, by omega⟩
      rw [Int.toNat_natCast] at hpq
      refine T_auto TT_ok rfl ?_
      refine RJ_QR TT_ok (hpq) rfl rfl (SVs.imp_refl _) rfl rfl ?_
      cases ha : (machAt c r 0).alive with
      | false =>
        refine T_cond rfl (fun e => ?_) (fun e => by cases e)
        refine T_auto TT_ok rfl ?_
        exact X_inv (r + 1) ⟨hr, hnext hr fun h => by rw [ha] at h; cases h⟩ (by omega) (by repeat (first | exact trivial | refine And.intro ⟨_, rfl, SV.imp_refl _⟩ ?_)) (by repeat (first | exact trivial | refine And.intro ⟨_, rfl, Ch.imp_refl _⟩ ?_))
      | true =>
        refine T_cond rfl (fun e => by cases e) (fun e => ?_)
        have hh := hm.2 ha
        obtain ⟨hl6, hcb⟩ := cellsOf_len (hok.mach hr (k := 0) (by omega)) hh
        refine T_auto TT_ok rfl ?_
        refine RJ_QR TT_ok (cells_q (machAt c r 0) bm.2.1.1 (r : Int)) rfl rfl (SVs.imp_refl _) rfl rfl ?_
        refine T_loopA (ι := Nat) (fun s => [(37, vI s)]) (fun _ => []) (fun s => s ≤ 6 ∧ ∀ j, j < s → agrAt c q2 r j) (fun s => 6 - s) 0 [] [] rfl rfl ⟨Nat.zero_le _, fun j hj => absurd hj (Nat.not_lt_zero _)⟩ (by repeat (first | exact trivial | refine And.intro ⟨_, rfl, SV.imp_refl _⟩ ?_)) (by repeat (first | exact trivial | refine And.intro ⟨_, rfl, Ch.imp_refl _⟩ ?_)) ?_
        intro s ⟨k1, k2⟩
        have hq6 := (cellsB_iff.1 (hqo.ok r hr)).1
        have hq6 : (q2.getD (r : Int).toNat []).length = 6 := hq6
        refine T_auto TT_ok rfl ?_
        refine T_condD rfl (fun e5 => ?_) (fun e5 => ?_)
        · have e5 : (s : Int) < ((cellsOf (machAt c r 0) r).length : Int) := e5
          have hs : s < 6 := by omega
          have hce : cellAt c r s = (cellsOf (machAt c r 0) r).getD s GCell.z := rfl
          have hhb := headB_cell (cellsB_get hcb (i := s) (by omega))
          refine T_auto TT_ok rfl ?_
          refine T_drawL TT_ok [] [0, 1, 2, 3, 4, 5, 6, 7, 8, 9, 10, 11] rfl rfl fun B0 H0 => ?_
          refine DJ_endA TT_ok rfl ?_
          refine T_cond rfl (fun e6 => ?_) (fun e6 => ?_)
          · have hbad : ¬ agrAt c q2 r s := by
              unfold agrAt
              rw [hce]
              exact (agr_bad2 hhb).1 e6
            refine T_auto TT_ok rfl ?_
            exact T_ansB TT_ok [(2, none)] rfl rfl ((agreesM_no hq hr fun h => hbad (h ha s hs)).symm)
          · have hgood : agrAt c q2 r s := by
              unfold agrAt
              rw [hce]
              exact Classical.not_not.1 fun h => absurd (((agr_bad2 hhb).2 h).symm.trans e6) (by simp)
            refine T_auto TT_ok rfl ?_
            refine X_inv (s + 1) ⟨hs, fun j hj => ?_⟩ (by omega) (by repeat (first | exact trivial | refine And.intro ⟨_, rfl, SV.imp_refl _⟩ ?_)) (by repeat (first | exact trivial | refine And.intro ⟨_, rfl, Ch.imp_refl _⟩ ?_))
            by_cases c1 : j = s
            · subst c1; exact hgood
            · exact k2 j (by omega)
        · have e5 : ¬ (s : Int) < ((cellsOf (machAt c r 0) r).length : Int) := e5
          have hs : s = 6 := by omega
          subst hs
          refine T_auto TT_ok rfl ?_
          exact X_inv (r + 1) ⟨hr, hnext hr fun _ => k2⟩ (by omega) (by repeat (first | exact trivial | refine And.intro ⟨_, rfl, SV.imp_refl _⟩ ?_)) (by repeat (first | exact trivial | refine And.intro ⟨_, rfl, Ch.imp_refl _⟩ ?_))
    · have e3 : ¬ (r : Int) < (q2.length : Int) := e3
      have hr : r = c.places.length := by omega
      subst hr
      refine T_auto TT_ok rfl ?_
      exact T_ansB TT_ok [(2, none)] rfl rfl ((agreesM_yes hq h2).symm)
end Go.Proofs.YthpjoddhlkcciaaGreat
namespace Go.Proofs.YthpjoddhlkcciaaGreat
open Go Go.RowKit
set_option linter.unusedVariables false
set_option linter.unusedSimpArgs false
set_option maxRecDepth 4000
theorem exactSerial_q (x : GCluster) (hb : D.bds maxL (cCluster x)) : Ans Tryz.prog 3 [] [vR (cCluster x)] [] (vB true) := by
  refine con_enter Tryz.func3 rfl rfl rfl fun B0 r_ D_ w0 => ?_
  refine T_auto TT_ok rfl ?_
  refine RJ_Q TT_ok (szCluster_g _ hb _ (by decide) (by decide)) rfl rfl rfl rfl rfl ?_
  refine T_condD rfl (fun e => ?_) (fun e => ?_)
  · refine T_auto TT_ok rfl ?_
    exact T_ansB TT_ok [(2, none)] rfl rfl (rfl)
  have h := small_of e
  clear e
  refine T_auto TT_ok rfl ?_
  refine RJ_C TT_ok (Con.sw 901 7131 (Con.sw 902 7132 (Con.sw 903 7133 (toCluster_g x h)))) rfl rfl (SVs.imp_refl _) (fun _ => rfl) rfl rfl rfl fun _ _ => ?_
  refine RJ_auto TT_ok rfl ?_
  refine RJ_Q TT_ok (spec_Serial_q x h) rfl rfl rfl rfl rfl ?_
  refine RJ_C TT_ok (Con.sw 901 7161 (Con.sw 902 7162 (Con.sw 903 7163 (toCluster_g x h)))) rfl rfl (SVs.imp_refl _) (fun _ => rfl) rfl rfl rfl fun _ _ => ?_
  refine RJ_auto TT_ok rfl ?_
  refine RJ_Q TT_ok (impl_Serial_q x h) rfl rfl rfl rfl rfl ?_
  refine T_condX rfl (fun e => by simp at e) (fun _ => ?_)
  refine T_auto TT_ok rfl ?_
  refine T_drawA TT_ok [] rfl rfl fun B0 H0 => ?_
  refine DJ_C 2 (Con.sw 901 7241 (Con.sw 902 7242 (Con.sw 903 7243 (toCluster_g x h)))) rfl rfl rfl (SVs.imp_refl _) (fun _ => rfl) rfl rfl rfl fun _ _ => ?_
  refine DJ_Q1 3 (eqCluster_g x h) rfl rfl rfl rfl rfl ?_
  refine DJ_on TT_ok rfl ?_
  refine DJ_endA TT_ok rfl ?_
  refine T_cond rfl (fun e => by cases e) (fun _ => ?_)
  refine T_auto TT_ok rfl ?_
  exact T_ansB TT_ok [(2, none)] rfl rfl (rfl)
theorem exactAgrees_q (x : GCluster) (hb : D.bds maxL (cCluster x)) : Ans Tryz.prog 5 [] [vR (cCluster x)] [] (vB true) := by
  refine con_enter Tryz.func5 rfl rfl rfl fun B0 r_ D_ w0 => ?_
  refine T_auto TT_ok rfl ?_
  refine RJ_Q TT_ok (szCluster_g _ hb _ (by decide) (by decide)) rfl rfl rfl rfl rfl ?_
  refine T_condD rfl (fun e => ?_) (fun e => ?_)
  · refine T_auto TT_ok rfl ?_
    exact T_ansB TT_ok [(2, none)] rfl rfl (rfl)
  have h := small_of e
  clear e
  refine T_auto TT_ok rfl ?_
  refine RJ_C TT_ok (Con.sw 901 7131 (Con.sw 902 7132 (Con.sw 903 7133 (toCluster_g x h)))) rfl rfl (SVs.imp_refl _) (fun _ => rfl) rfl rfl rfl fun _ _ => ?_
  refine RJ_auto TT_ok rfl ?_
  refine RJ_Q TT_ok (spec_Agrees_q x h) rfl rfl rfl rfl rfl ?_
  refine RJ_C TT_ok (Con.sw 901 7161 (Con.sw 902 7162 (Con.sw 903 7163 (toCluster_g x h)))) rfl rfl (SVs.imp_refl _) (fun _ => rfl) rfl rfl rfl fun _ _ => ?_
  refine RJ_auto TT_ok rfl ?_
  refine RJ_Q TT_ok (impl_Agrees_q x h) rfl rfl rfl rfl rfl ?_
  refine T_condX rfl (fun e => by simp at e) (fun _ => ?_)
  refine T_auto TT_ok rfl ?_
  refine T_drawA TT_ok [] rfl rfl fun B0 H0 => ?_
  refine DJ_C 2 (Con.sw 901 7241 (Con.sw 902 7242 (Con.sw 903 7243 (toCluster_g x h)))) rfl rfl rfl (SVs.imp_refl _) (fun _ => rfl) rfl rfl rfl fun _ _ => ?_
  refine DJ_Q1 3 (eqCluster_g x h) rfl rfl rfl rfl rfl ?_
  refine DJ_on TT_ok rfl ?_
  refine DJ_endA TT_ok rfl ?_
  refine T_cond rfl (fun e => by cases e) (fun _ => ?_)
  refine T_auto TT_ok rfl ?_
  exact T_ansB TT_ok [(2, none)] rfl rfl (rfl)
theorem finalM_le (c : GCluster) (r0 : Int) : (finalM c r0).1.length ≤ 1048576 := by
  unfold finalM
  cases hq : serialM c with
  | none => exact Nat.zero_le _
  | some q =>
    by_cases h : 0 ≤ r0 ∧ r0 < (c.places.length : Int)
    · have := (cellsB_iff.1 ((serial_ok hq).2.2.ok r0.toNat (by omega))).1
      simp only [if_pos h]
      omega
    · simp only [if_neg h]; exact Nat.zero_le _
theorem exactFinal_q (x : GCluster) (r0 : Int) (hb : D.bds maxL (cCluster x)) : Ans Tryz.prog 6 [] [vR (cCluster x), vI r0] [] (vB true) := by
  refine con_enter Tryz.func6 rfl rfl rfl fun B0 r_ D_ w0 => ?_
  refine T_auto TT_ok rfl ?_
  refine RJ_Q TT_ok (szCluster_g _ hb _ (by decide) (by decide)) rfl rfl rfl rfl rfl ?_
  refine T_condD rfl (fun e => ?_) (fun e => ?_)
  · refine T_auto TT_ok rfl ?_
    exact T_ansB TT_ok [(4, none)] rfl rfl (rfl)
  have h := small_of e
  have hM : (1 : Int) + (sumW mPlace x.places : Nat) + (sumW mMachine x.machines : Nat) + (sumW mTx x.txs : Nat) ≤ 1000000000000 := marks_of e
  have hN : decide ((1 : Int) + (sumW mPlace x.places : Nat) + (sumW mMachine x.machines : Nat) + (sumW mTx x.txs : Nat) < 0) = false := decide_eq_false (by omega)
  have h3 : (finalM x r0).1.length ≤ 1048576 := finalM_le x r0
  clear e
  refine T_auto TT_ok rfl ?_
  refine RJ_C TT_ok (Con.sw 901 7201 (Con.sw 902 7202 (Con.sw 903 7203 (toCluster_g x h)))) rfl rfl (SVs.imp_refl _) (fun _ => rfl) rfl rfl rfl fun _ _ => ?_
  refine RJ_auto TT_ok rfl ?_
  refine RJ_C TT_ok (Con.sw 900 5001 (spec_Final_m x h r0)) rfl rfl (SVs.imp_refl _) (fun _ => rfl) rfl rfl rfl fun _ _ => ?_
  refine RJ_auto TT_ok rfl ?_
  refine RJ_C TT_ok (Con.sw 901 7211 (Con.sw 902 7212 (Con.sw 903 7213 (toCluster_g x h)))) rfl rfl (SVs.imp_refl _) (fun _ => rfl) rfl rfl rfl fun _ _ => ?_
  refine RJ_auto TT_ok rfl ?_
  refine RJ_C TT_ok (Con.sw 900 5002 (impl_Final_m x h r0)) rfl rfl (SVs.imp_refl _) (fun _ => rfl) rfl rfl rfl fun _ _ => ?_
  refine RJ_auto TT_ok rfl ?_
  refine RJ_Q TT_ok (eqCellS_q _ h3) rfl rfl rfl rfl rfl ?_
  refine T_cond rfl (fun e => by simp at e) (fun _ => ?_)
  refine T_auto TT_ok rfl ?_
  refine T_drawA TT_ok [] rfl rfl fun B0 H0 => ?_
  refine DJ_C 2 (Con.sw 901 7241 (Con.sw 902 7242 (Con.sw 903 7243 (toCluster_g x h)))) rfl rfl rfl (SVs.imp_refl _) (fun _ => rfl) rfl rfl rfl fun _ _ => ?_
  refine DJ_Q1 3 (eqCluster_g x h) rfl rfl rfl rfl rfl ?_
  refine DJ_on TT_ok rfl ?_
  refine DJ_endA TT_ok rfl ?_
  refine T_cond rfl (fun e => by cases e) (fun _ => ?_)
  refine T_auto TT_ok rfl ?_
  refine RJ_C TT_ok (Con.sw 901 7211 (Con.sw 902 7212 (Con.sw 903 7213 (markCluster_g x h 1 (by decide) hM)))) rfl rfl (SVs.imp_refl _) (fun _ => rfl) rfl rfl rfl fun _ _ => ?_
  refine RJ_auto TT_ok rfl ?_
  refine RJ_Q TT_ok (eqCellS_q _ h3) rfl rfl rfl rfl rfl ?_
  refine T_cond rfl (fun e => by rw [hN] at e; simp at e) (fun _ => ?_)
  refine T_auto TT_ok rfl ?_
  refine RJ_C TT_ok (Con.sw 900 5002 (markCellS_w _ h3 1 (by decide) (by decide))) rfl rfl (SVs.imp_refl _) (fun _ => rfl) rfl rfl rfl fun _ _ => ?_
  refine RJ_auto TT_ok rfl ?_
  refine RJ_Q TT_ok (heldCellS_w _ h3 1 (by decide) (by decide)) rfl rfl rfl rfl rfl ?_
  refine T_condD rfl (fun e => by omega) (fun _ => ?_)
  refine T_auto TT_ok rfl ?_
  refine T_condN rfl (fun e => absurd rfl e) (fun _ => ?_)
  refine T_auto TT_ok rfl ?_
  refine RJ_C TT_ok (Con.sw 901 7551 (Con.sw 902 7552 (Con.sw 903 7553 (toCluster_g x h)))) rfl rfl (SVs.imp_refl _) (fun _ => rfl) rfl rfl rfl fun _ _ => ?_
  refine RJ_auto TT_ok rfl ?_
  refine RJ_C TT_ok (Con.sw 900 5003 (impl_Final_m x h r0)) rfl rfl (SVs.imp_refl _) (fun _ => rfl) rfl rfl rfl fun _ _ => ?_
  refine RJ_auto TT_ok rfl ?_
  refine RJ_Q TT_ok (eqCellS_q _ h3) rfl rfl rfl rfl rfl ?_
  refine T_cond rfl (fun e => by simp at e) (fun _ => ?_)
  refine T_auto TT_ok rfl ?_
  refine RJ_Q TT_ok (heldCellS_w _ h3 1 (by decide) (by decide)) rfl rfl rfl rfl rfl ?_
  refine T_condD rfl (fun e => by omega) (fun _ => ?_)
  refine T_auto TT_ok rfl ?_
  refine T_condN rfl (fun e => absurd rfl e) (fun _ => ?_)
  refine T_auto TT_ok rfl ?_
  exact T_ansB TT_ok [(4, none)] rfl rfl (rfl)
end Go.Proofs.YthpjoddhlkcciaaGreat
namespace Go.Proofs.YthpjoddhlkcciaaGreat
open Go Go.RowKit
set_option linter.unusedVariables false
set_option linter.unusedSimpArgs false
def rofW (W : World) : PH := fun b o => match W.cell? ⟨b, o, none⟩ with
  | some v => bif W.frozen? ⟨b, o, none⟩ then none else some v
  | none => none
theorem rofW_fit (W : World) : Fit (rofW W) W := fun b o v e => by
  unfold rofW at e
  cases h : W.cell? ⟨b, o, none⟩ with
  | none => rw [h] at e; cases e
  | some u =>
    rw [h] at e
    simp only at e
    cases hf : W.frozen? ⟨b, o, none⟩ with
    | true => rw [hf] at e; cases e
    | false => rw [hf] at e; exact ⟨e, rfl⟩
theorem rofW_at {W : World} {b o : Nat} {v : Value} (h : W.cell? ⟨b, o, none⟩ = some v) (hf : W.frozen? ⟨b, o, none⟩ = false) : rofW W b o = some v := by
  unfold rofW; rw [h]; simp only; rw [hf]; rfl
def Opens (P : Program) (t : TypeId) {α : Type} (k : α → List D) : Prop :=
  ∀ {H : Type} (enc : TypeId × Value → H) (W : World) (fuel : Nat) (cs : List Value) (x : DataW H × List MemPlace),
    DataW.trod enc P W 0 (fun _ => true) true fuel t cs = some x → W.noneFrozen x.2 → ∃ y, D.rds (rofW W) (k y) cs
section
variable {P : Program} {TT : List TI}
theorem opens_int {t : TypeId} (h : P.underlying t = some (.int .i64)) : Opens P t cInt := fun enc W fuel cs x hx _ => by
  have : ∃ y : Int, cs = [.int .i64 y] := by
    cases fuel with
    | zero => simp [DataW.trod] at hx
    | succ n =>
      unfold DataW.trod at hx
      rw [h] at hx
      split at hx <;> simp_all
  obtain ⟨y, rfl⟩ := this
  exact ⟨y, _, _, rfl, rfl, rfl⟩
theorem opens_bool {t : TypeId} (h : P.underlying t = some .bool) : Opens P t cBool := fun enc W fuel cs x hx _ => by
  have : ∃ y : Bool, cs = [.bool y] := by
    cases fuel with
    | zero => simp [DataW.trod] at hx
    | succ n =>
      unfold DataW.trod at hx
      rw [h] at hx
      split at hx <;> first | exact ⟨_, rfl⟩ | simp_all
  obtain ⟨y, rfl⟩ := this
  exact ⟨y, _, _, rfl, rfl, rfl⟩
theorem noneFrozen_sub {W : World} {ps qs : List MemPlace} (h : W.noneFrozen ps) (hs : ∀ x ∈ qs, x ∈ ps) : W.noneFrozen qs := fun b o hm => h b o (hs _ hm)
theorem spot_none {W : World} {a : Addr} {v : Value} (h : W.cell? a = some v) : a = ⟨a.block, a.off, none⟩ := by
  obtain ⟨b, o, s⟩ := a
  cases s with
  | none => rfl
  | some s =>
    simp only [World.cell?] at h
    split at h <;> simp at h
theorem add_add_none (b o i j : Nat) : ((⟨b, o, none⟩ : Addr).add i).add j = ⟨b, o + i + j, none⟩ := by
  unfold Addr.add
  by_cases hi : i = 0 <;> by_cases hj : j = 0 <;> simp [hi, hj]
theorem opens_slice {t e : TypeId} {α : Type} {k : α → List D} (sz : Nat) (z : α) (ht : P.underlying t = some (.slice e)) (hk : Opens P e k) (hc : P.cellsOf e = sz) (hpos : 0 < sz) : Opens P t fun xs : List α => [dL sz k z xs] := fun enc W fuel cs x hx hf => by
  rcases DataW.trod_slice ht hx with ⟨rfl, rfl⟩ | ⟨a, len, cap, elems, rest, n, _, rfl, rfl, hb, hl, hm, hlen, hel, _, _⟩
  · exact ⟨[], _, _, rfl, ⟨none, 0, rfl, Nat.le_refl _, Nat.zero_le _, .inl rfl⟩, rfl⟩
  · rw [hc] at hel
    have each : ∀ i, i < len → ∃ y row, D.rds (rofW W) (k y) row ∧ row.length = sz ∧ ∀ j, j < sz → W.cell? ((a.add (i * sz)).add j) = row[j]? := by
      intro i hi
      have h1 := hel i hi
      cases hcs : W.cells? 0 (a.add (i * sz)) sz with
      | none => rw [hcs] at h1; simp at h1; omega
      | some cs =>
        rw [hcs] at h1
        simp only [Option.bind_some] at h1
        obtain ⟨g1, g2, g3⟩ := World.cells?_some hcs
        have hlt : i < elems.length := by omega
        rw [List.getElem?_eq_getElem hlt] at h1
        obtain ⟨y, hy⟩ := hk enc W n cs _ h1 (noneFrozen_sub hf fun x hx => List.mem_append_right _ (List.mem_flatMap.2 ⟨_, List.mem_append_left _ (List.getElem_mem hlt), hx⟩))
        exact ⟨y, cs, hy, g2, g3⟩
    have hml : len ≤ maxL := Nat.le_trans (Nat.le_trans hl hm) (Nat.le_of_ble_eq_true rfl)
    by_cases h0 : len = 0
    · subst h0
      exact ⟨[], _, _, rfl, ⟨some a, cap, rfl, by simp, Nat.zero_le _, .inl rfl⟩, rfl⟩
    · obtain ⟨y0, row0, _, r2, r3⟩ := each 0 (by omega)
      have ha : a = ⟨a.block, a.off, none⟩ := by
        have h := r3 0 hpos
        rw [List.getElem?_eq_getElem (by omega)] at h
        have : (a.add (0 * sz)).add 0 = a := by rw [Nat.zero_mul]; rfl
        rw [this] at h
        exact spot_none h
      have hadd : ∀ i j, (a.add i).add j = ⟨a.block, a.off + i + j, none⟩ := fun i j => by
        conv => lhs; rw [ha]
        exact add_add_none _ _ i j
      have hcell : ∀ i j, i < len → j < sz → MemPlace.cell a.block (a.off + i * sz + j) ∈ MemPlace.row a ((elems.length + rest.length) * P.cellsOf e) := fun i j hi hj => by
        refine MemPlace.mem_row.2 ⟨i * sz + j, ?_, by rw [Nat.add_assoc]⟩
        rw [hc]
        have h1 : (i + 1) * sz ≤ (elems.length + rest.length) * sz := Nat.mul_le_mul_right _ (by omega)
        rw [Nat.add_mul, Nat.one_mul] at h1
        omega
      let f : Nat → α := fun i => if h : i < len then (each i h).choose else y0
      have hf' : ∀ i (h : i < len), f i = (each i h).choose := fun i h => by simp only [f, dif_pos h]
      have hlen' : ((List.range len).map f).length = len := by simp
      refine ⟨(List.range len).map f, _, _, rfl, ⟨some a, cap, by rw [hlen'], by rw [hlen']; simpa using hl, by rw [hlen']; exact hml, .inr ⟨a.block, a.off, by rw [← ha], fun i hi => ?_⟩⟩, rfl⟩
      rw [hlen'] at hi
      obtain ⟨row, q1, q2, q3⟩ := (each i hi).choose_spec
      have hg : ((List.range len).map f).getD i z = (each i hi).choose := by simp [hi, hf' i hi]
      refine ⟨row, by show D.rds _ (k (((List.range len).map f).getD i z)) row; rw [hg]; exact q1, q2, fun j hj => ?_⟩
      have h := q3 j hj
      rw [hadd] at h
      rw [List.getElem?_eq_getElem (by omega)] at h ⊢
      exact rofW_at h (hf _ _ (List.mem_append_left _ (hcell i j hi hj)))
theorem opens_fields (hT : TOk P TT) {t : TypeId} {sz by_ : Nat} {z : Value} {ef : Bool} {l : List (Nat × Nat)} (h1 : tlk t TT = some ⟨t, sz, by_, .st l, z, ef⟩) {H : Type} {enc : TypeId × Value → H} {W : World} {fuel : Nat} {cs : List Value} {x : DataW H × List MemPlace}
    (hx : DataW.trod enc P W 0 (fun _ => true) true fuel t cs = some x) (hf : W.noneFrozen x.2) : cs.length = sz ∧ ∀ (i o : Nat) (ft : Nat) (tf : TI), l[i]? = some (o, ft) → tlk ft TT = some tf → ∃ (n : Nat) (y : DataW H × List MemPlace), DataW.trod enc P W 0 (fun _ => true) true n ft ((cs.drop o).take tf.sz) = some y ∧ W.noneFrozen y.2 := by
  obtain ⟨_, ok⟩ := hT.get h1
  obtain ⟨d, d1, d2⟩ := ok.desc
  obtain ⟨i, i1, i2, _⟩ := ok.info
  simp only at d1 d2 i1 i2
  obtain ⟨fs, rfl, hfs⟩ := shapeK_st d2
  obtain ⟨xs, n, _, rfl, h3, h4, h5⟩ := DataW.trod_struct d1 hx
  refine ⟨by rw [h3]; simp [Program.cellsOf, i1, i2], fun j o ft tf hj ht => ?_⟩
  rw [← hfs, List.getElem?_map] at hj
  cases hfj : fs.toList[j]? with
  | none => rw [hfj] at hj; cases hj
  | some f =>
    rw [hfj] at hj
    simp at hj
    obtain ⟨rfl, rfl⟩ := hj
    have hfj' : fs[j]? = some f := by simpa using hfj
    have h6 := h5 j f hfj'
    obtain ⟨e1, ok2⟩ := hT.get ht
    obtain ⟨i', j1, j2, _⟩ := ok2.info
    have hlt : j < xs.length := by rw [h4]; exact (Array.getElem?_eq_some_iff.1 hfj').1
    rw [List.getElem?_eq_getElem hlt] at h6
    refine ⟨n, xs[j], ?_, noneFrozen_sub hf fun y hy => List.mem_flatMap.2 ⟨_, List.getElem_mem hlt, hy⟩⟩
    rw [← h6]
    congr 2
    simp [Program.cellsOf, ← e1, j1, j2]
end
theorem rds_one {h : PH} {d : D} {a : Value} (e : D.rds h [d] [a]) : D.rd h d a := by
  obtain ⟨y, t, e1, e2, _⟩ := e
  injection e1 with e1
  rw [e1]; exact e2
theorem len1 {α : Type} {l : List α} (h : l.length = 1) : ∃ a0, l = [a0] := by
  match l, h with
  | [a0], _ => exact ⟨a0, rfl⟩
theorem len2 {α : Type} {l : List α} (h : l.length = 2) : ∃ a0 a1, l = [a0, a1] := by
  match l, h with
  | [a0, a1], _ => exact ⟨a0, a1, rfl⟩
theorem len4 {α : Type} {l : List α} (h : l.length = 4) : ∃ a0 a1 a2 a3, l = [a0, a1, a2, a3] := by
  match l, h with
  | [a0, a1, a2, a3], _ => exact ⟨a0, a1, a2, a3, rfl⟩
theorem len5 {α : Type} {l : List α} (h : l.length = 5) : ∃ a0 a1 a2 a3 a4, l = [a0, a1, a2, a3, a4] := by
  match l, h with
  | [a0, a1, a2, a3, a4], _ => exact ⟨a0, a1, a2, a3, a4, rfl⟩
theorem len6 {α : Type} {l : List α} (h : l.length = 6) : ∃ a0 a1 a2 a3 a4 a5, l = [a0, a1, a2, a3, a4, a5] := by
  match l, h with
  | [a0, a1, a2, a3, a4, a5], _ => exact ⟨a0, a1, a2, a3, a4, a5, rfl⟩
theorem len7 {α : Type} {l : List α} (h : l.length = 7) : ∃ a0 a1 a2 a3 a4 a5 a6, l = [a0, a1, a2, a3, a4, a5, a6] := by
  match l, h with
  | [a0, a1, a2, a3, a4, a5, a6], _ => exact ⟨a0, a1, a2, a3, a4, a5, a6, rfl⟩
theorem opens_Int : Opens Tryz.prog 2 cInt := opens_int Tryz.underlying2
theorem opens_Bool : Opens Tryz.prog 4 cBool := opens_bool Tryz.underlying4
theorem opens_Set : Opens Tryz.prog 215 cSet := fun enc W fuel cs x hx hf => by
  obtain ⟨hl, h⟩ := opens_fields TT_ok (t := 215) rfl hx hf
  obtain ⟨a0, a1, a2, a3, a4, rfl⟩ := len5 hl
  obtain ⟨n0, y0, t0, f0⟩ := h 0 _ _ _ rfl rfl
  obtain ⟨x0, e0⟩ := opens_Int enc W _ _ _ t0 f0
  obtain ⟨n1, y1, t1, f1⟩ := h 1 _ _ _ rfl rfl
  obtain ⟨x1, e1⟩ := opens_Int enc W _ _ _ t1 f1
  obtain ⟨n2, y2, t2, f2⟩ := h 2 _ _ _ rfl rfl
  obtain ⟨x2, e2⟩ := opens_Int enc W _ _ _ t2 f2
  obtain ⟨n3, y3, t3, f3⟩ := h 3 _ _ _ rfl rfl
  obtain ⟨x3, e3⟩ := opens_Bool enc W _ _ _ t3 f3
  obtain ⟨n4, y4, t4, f4⟩ := h 4 _ _ _ rfl rfl
  obtain ⟨x4, e4⟩ := opens_Int enc W _ _ _ t4 f4
  exact ⟨⟨x0, x1, x2, x3, x4⟩, ⟨a0, _, rfl, rds_one e0, ⟨a1, _, rfl, rds_one e1, ⟨a2, _, rfl, rds_one e2, ⟨a3, _, rfl, rds_one e3, ⟨a4, _, rfl, rds_one e4, rfl⟩⟩⟩⟩⟩⟩
theorem opens_Note : Opens Tryz.prog 213 cNote := fun enc W fuel cs x hx hf => by
  obtain ⟨hl, h⟩ := opens_fields TT_ok (t := 213) rfl hx hf
  obtain ⟨a0, a1, a2, a3, a4, rfl⟩ := len5 hl
  obtain ⟨n0, y0, t0, f0⟩ := h 0 _ _ _ rfl rfl
  obtain ⟨x0, e0⟩ := opens_Int enc W _ _ _ t0 f0
  obtain ⟨n1, y1, t1, f1⟩ := h 1 _ _ _ rfl rfl
  obtain ⟨x1, e1⟩ := opens_Int enc W _ _ _ t1 f1
  obtain ⟨n2, y2, t2, f2⟩ := h 2 _ _ _ rfl rfl
  obtain ⟨x2, e2⟩ := opens_Int enc W _ _ _ t2 f2
  obtain ⟨n3, y3, t3, f3⟩ := h 3 _ _ _ rfl rfl
  obtain ⟨x3, e3⟩ := opens_Int enc W _ _ _ t3 f3
  obtain ⟨n4, y4, t4, f4⟩ := h 4 _ _ _ rfl rfl
  obtain ⟨x4, e4⟩ := opens_Bool enc W _ _ _ t4 f4
  exact ⟨⟨x0, x1, x2, x3, x4⟩, ⟨a0, _, rfl, rds_one e0, ⟨a1, _, rfl, rds_one e1, ⟨a2, _, rfl, rds_one e2, ⟨a3, _, rfl, rds_one e3, ⟨a4, _, rfl, rds_one e4, rfl⟩⟩⟩⟩⟩⟩
theorem opens_Cell : Opens Tryz.prog 251 cCell := fun enc W fuel cs x hx hf => by
  obtain ⟨hl, h⟩ := opens_fields TT_ok (t := 251) rfl hx hf
  obtain ⟨a0, a1, rfl⟩ := len2 hl
  obtain ⟨n0, y0, t0, f0⟩ := h 0 _ _ _ rfl rfl
  obtain ⟨x0, e0⟩ := opens_Int enc W _ _ _ t0 f0
  obtain ⟨n1, y1, t1, f1⟩ := h 1 _ _ _ rfl rfl
  obtain ⟨x1, e1⟩ := opens_Int enc W _ _ _ t1 f1
  exact ⟨⟨x0, x1⟩, ⟨a0, _, rfl, rds_one e0, ⟨a1, _, rfl, rds_one e1, rfl⟩⟩⟩
theorem opens_Tx_4 : Opens Tryz.prog 123 (fun xs : List GNote => [dL 5 cNote GNote.z xs]) := opens_slice 5 GNote.z Tryz.underlying123 opens_Note (by kernel_rfl) (Nat.lt_of_sub_eq_succ rfl)
theorem opens_Tx_5 : Opens Tryz.prog 124 (fun xs : List GSet => [dL 5 cSet GSet.z xs]) := opens_slice 5 GSet.z Tryz.underlying124 opens_Set (by kernel_rfl) (Nat.lt_of_sub_eq_succ rfl)
theorem opens_Tx : Opens Tryz.prog 126 cTx := fun enc W fuel cs x hx hf => by
  obtain ⟨hl, h⟩ := opens_fields TT_ok (t := 126) rfl hx hf
  obtain ⟨a0, a1, a2, a3, a4, a5, a6, rfl⟩ := len7 hl
  obtain ⟨n0, y0, t0, f0⟩ := h 0 _ _ _ rfl rfl
  obtain ⟨x0, e0⟩ := opens_Int enc W _ _ _ t0 f0
  obtain ⟨n1, y1, t1, f1⟩ := h 1 _ _ _ rfl rfl
  obtain ⟨x1, e1⟩ := opens_Int enc W _ _ _ t1 f1
  obtain ⟨n2, y2, t2, f2⟩ := h 2 _ _ _ rfl rfl
  obtain ⟨x2, e2⟩ := opens_Int enc W _ _ _ t2 f2
  obtain ⟨n3, y3, t3, f3⟩ := h 3 _ _ _ rfl rfl
  obtain ⟨x3, e3⟩ := opens_Int enc W _ _ _ t3 f3
  obtain ⟨n4, y4, t4, f4⟩ := h 4 _ _ _ rfl rfl
  obtain ⟨x4, e4⟩ := opens_Tx_4 enc W _ _ _ t4 f4
  obtain ⟨n5, y5, t5, f5⟩ := h 5 _ _ _ rfl rfl
  obtain ⟨x5, e5⟩ := opens_Tx_5 enc W _ _ _ t5 f5
  obtain ⟨n6, y6, t6, f6⟩ := h 6 _ _ _ rfl rfl
  obtain ⟨x6, e6⟩ := opens_Int enc W _ _ _ t6 f6
  exact ⟨⟨x0, x1, x2, x3, x4, x5, x6⟩, ⟨a0, _, rfl, rds_one e0, ⟨a1, _, rfl, rds_one e1, ⟨a2, _, rfl, rds_one e2, ⟨a3, _, rfl, rds_one e3, ⟨a4, _, rfl, rds_one e4, ⟨a5, _, rfl, rds_one e5, ⟨a6, _, rfl, rds_one e6, rfl⟩⟩⟩⟩⟩⟩⟩⟩
end Go.Proofs.YthpjoddhlkcciaaGreat
namespace Go.Proofs.YthpjoddhlkcciaaGreat
open Go Go.RowKit
set_option linter.unusedVariables false
set_option linter.unusedSimpArgs false
theorem opens_CellS : Opens Tryz.prog 204 (fun xs : List GCell => [dL 2 cCell GCell.z xs]) := opens_slice 2 GCell.z Tryz.underlying204 opens_Cell (by kernel_rfl) (Nat.lt_of_sub_eq_succ rfl)
theorem opens_SetS : Opens Tryz.prog 124 (fun xs : List GSet => [dL 5 cSet GSet.z xs]) := opens_slice 5 GSet.z Tryz.underlying124 opens_Set (by kernel_rfl) (Nat.lt_of_sub_eq_succ rfl)
theorem opens_Int64S : Opens Tryz.prog 37 (fun xs : List Int => [dL 1 cInt 0 xs]) := opens_slice 1 0 Tryz.underlying37 opens_Int (by kernel_rfl) (Nat.lt_of_sub_eq_succ rfl)
theorem opens_Place : Opens Tryz.prog 116 cPlace := fun enc W fuel cs x hx hf => by
  obtain ⟨hl, h⟩ := opens_fields TT_ok (t := 116) rfl hx hf
  obtain ⟨a0, rfl⟩ := len1 hl
  obtain ⟨n0, y0, t0, f0⟩ := h 0 _ _ _ rfl rfl
  obtain ⟨x0, e0⟩ := opens_Int64S enc W _ _ _ t0 f0
  exact ⟨⟨x0⟩, ⟨a0, _, rfl, rds_one e0, rfl⟩⟩
theorem opens_PlaceS : Opens Tryz.prog 22 (fun xs : List GPlace => [dL 1 cPlace GPlace.z xs]) := opens_slice 1 GPlace.z Tryz.underlying22 opens_Place (by kernel_rfl) (Nat.lt_of_sub_eq_succ rfl)
theorem opens_Record : Opens Tryz.prog 209 cRecord := fun enc W fuel cs x hx hf => by
  obtain ⟨hl, h⟩ := opens_fields TT_ok (t := 209) rfl hx hf
  obtain ⟨a0, a1, a2, a3, rfl⟩ := len4 hl
  obtain ⟨n0, y0, t0, f0⟩ := h 0 _ _ _ rfl rfl
  obtain ⟨x0, e0⟩ := opens_Int enc W _ _ _ t0 f0
  obtain ⟨n1, y1, t1, f1⟩ := h 1 _ _ _ rfl rfl
  obtain ⟨x1, e1⟩ := opens_Int enc W _ _ _ t1 f1
  obtain ⟨n2, y2, t2, f2⟩ := h 2 _ _ _ rfl rfl
  obtain ⟨x2, e2⟩ := opens_Int enc W _ _ _ t2 f2
  obtain ⟨n3, y3, t3, f3⟩ := h 3 _ _ _ rfl rfl
  obtain ⟨x3, e3⟩ := opens_SetS enc W _ _ _ t3 f3
  exact ⟨⟨x0, x1, x2, x3⟩, ⟨a0, _, rfl, rds_one e0, ⟨a1, _, rfl, rds_one e1, ⟨a2, _, rfl, rds_one e2, ⟨a3, _, rfl, rds_one e3, rfl⟩⟩⟩⟩⟩
theorem opens_RecordS : Opens Tryz.prog 119 (fun xs : List GRecord => [dL 4 cRecord GRecord.z xs]) := opens_slice 4 GRecord.z Tryz.underlying119 opens_Record (by kernel_rfl) (Nat.lt_of_sub_eq_succ rfl)
theorem opens_Copy : Opens Tryz.prog 206 cCopy := fun enc W fuel cs x hx hf => by
  obtain ⟨hl, h⟩ := opens_fields TT_ok (t := 206) rfl hx hf
  obtain ⟨a0, a1, rfl⟩ := len2 hl
  obtain ⟨n0, y0, t0, f0⟩ := h 0 _ _ _ rfl rfl
  obtain ⟨x0, e0⟩ := opens_Int enc W _ _ _ t0 f0
  obtain ⟨n1, y1, t1, f1⟩ := h 1 _ _ _ rfl rfl
  obtain ⟨x1, e1⟩ := opens_CellS enc W _ _ _ t1 f1
  exact ⟨⟨x0, x1⟩, ⟨a0, _, rfl, rds_one e0, ⟨a1, _, rfl, rds_one e1, rfl⟩⟩⟩
theorem opens_CopyS : Opens Tryz.prog 118 (fun xs : List GCopy => [dL 2 cCopy GCopy.z xs]) := opens_slice 2 GCopy.z Tryz.underlying118 opens_Copy (by kernel_rfl) (Nat.lt_of_sub_eq_succ rfl)
theorem opens_Machine : Opens Tryz.prog 121 cMachine := fun enc W fuel cs x hx hf => by
  obtain ⟨hl, h⟩ := opens_fields TT_ok (t := 121) rfl hx hf
  obtain ⟨a0, a1, a2, a3, rfl⟩ := len4 hl
  obtain ⟨n0, y0, t0, f0⟩ := h 0 _ _ _ rfl rfl
  obtain ⟨x0, e0⟩ := opens_Bool enc W _ _ _ t0 f0
  obtain ⟨n1, y1, t1, f1⟩ := h 1 _ _ _ rfl rfl
  obtain ⟨x1, e1⟩ := opens_CopyS enc W _ _ _ t1 f1
  obtain ⟨n2, y2, t2, f2⟩ := h 2 _ _ _ rfl rfl
  obtain ⟨x2, e2⟩ := opens_RecordS enc W _ _ _ t2 f2
  obtain ⟨n3, y3, t3, f3⟩ := h 3 _ _ _ rfl rfl
  obtain ⟨x3, e3⟩ := opens_Int64S enc W _ _ _ t3 f3
  exact ⟨⟨x0, x1, x2, x3⟩, ⟨a0, _, rfl, rds_one e0, ⟨a1, _, rfl, rds_one e1, ⟨a2, _, rfl, rds_one e2, ⟨a3, _, rfl, rds_one e3, rfl⟩⟩⟩⟩⟩
theorem opens_MachineS : Opens Tryz.prog 23 (fun xs : List GMachine => [dL 4 cMachine GMachine.z xs]) := opens_slice 4 GMachine.z Tryz.underlying23 opens_Machine (by kernel_rfl) (Nat.lt_of_sub_eq_succ rfl)
theorem opens_TxS : Opens Tryz.prog 24 (fun xs : List GTx => [dL 7 cTx GTx.z xs]) := opens_slice 7 GTx.z Tryz.underlying24 opens_Tx (by kernel_rfl) (Nat.lt_of_sub_eq_succ rfl)
theorem opens_Cluster : Opens Tryz.prog 26 cCluster := fun enc W fuel cs x hx hf => by
  obtain ⟨hl, h⟩ := opens_fields TT_ok (t := 26) rfl hx hf
  obtain ⟨a0, a1, a2, a3, a4, a5, rfl⟩ := len6 hl
  obtain ⟨n0, y0, t0, f0⟩ := h 0 _ _ _ rfl rfl
  obtain ⟨x0, e0⟩ := opens_Int enc W _ _ _ t0 f0
  obtain ⟨n1, y1, t1, f1⟩ := h 1 _ _ _ rfl rfl
  obtain ⟨x1, e1⟩ := opens_Int enc W _ _ _ t1 f1
  obtain ⟨n2, y2, t2, f2⟩ := h 2 _ _ _ rfl rfl
  obtain ⟨x2, e2⟩ := opens_PlaceS enc W _ _ _ t2 f2
  obtain ⟨n3, y3, t3, f3⟩ := h 3 _ _ _ rfl rfl
  obtain ⟨x3, e3⟩ := opens_MachineS enc W _ _ _ t3 f3
  obtain ⟨n4, y4, t4, f4⟩ := h 4 _ _ _ rfl rfl
  obtain ⟨x4, e4⟩ := opens_TxS enc W _ _ _ t4 f4
  obtain ⟨n5, y5, t5, f5⟩ := h 5 _ _ _ rfl rfl
  obtain ⟨x5, e5⟩ := opens_Bool enc W _ _ _ t5 f5
  exact ⟨⟨x0, x1, x2, x3, x4, x5⟩, ⟨a0, _, rfl, rds_one e0, ⟨a1, _, rfl, rds_one e1, ⟨a2, _, rfl, rds_one e2, ⟨a3, _, rfl, rds_one e3, ⟨a4, _, rfl, rds_one e4, ⟨a5, _, rfl, rds_one e5, rfl⟩⟩⟩⟩⟩⟩⟩
end Go.Proofs.YthpjoddhlkcciaaGreat
