
/-
  The laws Wanted and Noted.
-/
import Derived.Test.YtamcahpdepepfaaR6
import Derived.Test.YtamcahpdepepfaaL1
namespace Go.Proofs.Ytamcahpdepepfaa
open Go Go.RowKit
set_option linter.unusedVariables false
set_option linter.unusedSimpArgs false
set_option maxRecDepth 4000

section
variable {t : GTx}
theorem regs_mono (h : TxOk t) : ∀ j, 0 < j → j < (regsOf t).length → (regsOf t).getD (j - 1) 0 ≤ (regsOf t).getD j 0 := fun j h1 h2 => by
  rw [regsOf_at, regsOf_at]
  rw [regsOf_len] at h2
  have := (h.2.2 j h2).2 h1
  unfold lessS at this
  omega
theorem wants_facts (h : TxOk t) : (wantsM t).Pairwise (· < ·) ∧ (∀ s ∈ t.sets, s.region ∈ wantsM t) ∧ ∀ r ∈ wantsM t, ∃ s ∈ t.sets, s.region = r := by
  rw [wantsM, if_pos h]
  have hm := cm_mem (l := regsOf t) (Nat.le_refl _)
  refine ⟨(cm_rise (Nat.le_refl _) (regs_mono h)).1, fun s hs => ?_, fun r hr => ?_⟩
  · rw [hm, List.take_length]; exact List.mem_map.2 ⟨s, hs, rfl⟩
  · rw [hm, List.take_length] at hr
    obtain ⟨s, hs, e⟩ := List.mem_map.1 hr
    exact ⟨s, hs, e⟩
end
theorem wanted_q {n : Nat} {β : Nat → Int} (hβ : byteB β) : Ans Try.prog 3 [701] [.a (.g 701)] [(701, bytC n β)] (vB true) := by
  refine con_enter Try.func3 rfl rfl rfl fun B0 r_ D_ w0 => ?_
  refine T_auto TT_ok rfl ?_
  refine RJ_Q TT_ok (big_q n _) rfl rfl rfl rfl rfl ?_
  refine T_condD rfl (fun e => ?_) (fun e => ?_)
  · refine T_auto TT_ok rfl ?_
    exact T_ansB TT_ok [(2, none)] rfl rfl (rfl)
  have hn : n ≤ 1048576 := by omega
  refine T_auto TT_ok rfl ?_
  refine RJ_C (nk := [31, 32]) TT_ok (Con.sw 901 31 (Con.sw 902 32 (drawWants_c hn hβ))) rfl rfl (SVs.imp_refl _) (fun _ => rfl) rfl rfl rfl fun t ht => ?_
  have l1 : t.reads.length ≤ 13 := ht.1
  have l2 : t.sets.length ≤ 13 := ht.2
  have w1 : (wantsM t).length ≤ 13 := Nat.le_trans (wantsM_le t) l2
  have c1 : (checksM t).length ≤ 13 := by
    unfold checksM; split
    · exact Nat.le_trans (List.length_filter_le _ _) l1
    · exact Nat.zero_le _
  refine RJ_auto TT_ok rfl ?_
  refine RJ_C TT_ok (Con.sw 900 41 (impl_Wants_m t (by omega))) rfl rfl (SVs.imp_refl _) (fun _ => rfl) rfl rfl rfl fun _ _ => ?_
  refine RJ_auto TT_ok rfl ?_
  refine RJ_C TT_ok (Con.sw 900 42 (impl_Checks_m t (by omega) (by omega))) rfl rfl (SVs.imp_refl _) (fun _ => rfl) rfl rfl rfl fun _ _ => ?_
  refine RJ_auto TT_ok rfl ?_
  refine RJ_C TT_ok (Con.sw 900 43 (spec_Wants_m t (by omega))) rfl rfl (SVs.imp_refl _) (fun _ => rfl) rfl rfl rfl fun _ _ => ?_
  refine RJ_auto TT_ok rfl ?_
  refine RJ_Q TT_ok (likeInts_q (wantsM t) (by omega)) rfl rfl rfl rfl rfl ?_
  refine RJ_C TT_ok (Con.sw 900 44 (spec_Checks_m t (by omega) (by omega))) rfl rfl (SVs.imp_refl _) (fun _ => rfl) rfl rfl rfl fun _ _ => ?_
  refine RJ_auto TT_ok rfl ?_
  refine RJ_Q TT_ok (likeNotes_q (checksM t) (by omega)) rfl rfl rfl rfl rfl ?_
  refine T_cond rfl (fun e => by cases e) (fun _ => ?_)
  refine T_auto TT_ok rfl ?_
  refine RJ_Q TT_ok (impl_TxOk_q t) rfl rfl rfl rfl rfl ?_
  refine T_condX rfl (fun e1 => ?_) (fun e1 => ?_)
  · have hno := dec_not.1 e1
    refine T_auto TT_ok rfl ?_
    exact T_ansB TT_ok [(2, none)] rfl rfl ((by simp [wantsM, checksM, hno]))
  have hok := dec_iff.1 e1
  obtain ⟨f1, f2, f3⟩ := wants_facts hok
  refine T_auto TT_ok rfl ?_
  refine T_loopA (ι := Nat) (fun i => [(7, vI i), (6, vI (sumW (fun r => (setsAt r t.sets).length) ((wantsM t).take i) : Nat))]) (fun _ => []) (fun i => i ≤ (wantsM t).length) (fun i => (wantsM t).length - i) 0 [] [] rfl rfl (Nat.zero_le _) (by repeat (first | exact trivial | refine And.intro ⟨_, rfl, SV.imp_refl _⟩ ?_)) (by repeat (first | exact trivial | refine And.intro ⟨_, rfl, Ch.imp_refl _⟩ ?_)) ?_
  intro i h1
  refine T_auto TT_ok rfl ?_
  refine T_condD rfl (fun e2 => ?_) (fun e2 => ?_)
  · have hi : i < (wantsM t).length := by omega
    have hS : setsOfM t ((wantsM t).getD i 0) = setsAt ((wantsM t).getD i 0) t.sets := by unfold setsOfM; rw [if_pos hok]
    have hl : (setsAt ((wantsM t).getD i 0) t.sets).length ≤ 13 := Nat.le_trans (List.length_filter_le _ _) l2
    have hsum : sumW (fun r => (setsAt r t.sets).length) ((wantsM t).take i) ≤ t.sets.length := by
      have := sumW_take_le (w := fun r => (setsAt r t.sets).length) (wantsM t) i
      rw [cnt_all f1 f2] at this; exact this
    have hpos : (setsAt ((wantsM t).getD i 0) t.sets).length ≠ 0 := by
      obtain ⟨s, hs, e⟩ := f3 _ (getD_mem (z := 0) hi)
      have : s ∈ setsAt ((wantsM t).getD i 0) t.sets := List.mem_filter.2 ⟨hs, by simp [e]⟩
      intro h0; rw [List.length_eq_zero_iff.1 h0] at this; cases this
    have hrise : 0 < i → (wantsM t).getD (i - 1) 0 < (wantsM t).getD i 0 := fun h0 => pair_get (z := 0) f1 (by omega) hi
    refine T_auto TT_ok rfl ?_
    refine T_drawL TT_ok [] [0, 1, 2, 3, 4, 5, 6] rfl rfl fun B0 H0 => ?_
    refine DJ_C 5 (Con.sw 900 50 (impl_SetsOf_m t ((wantsM t).getD i 0) (by omega))) rfl rfl rfl (SVs.imp_refl _) (fun _ => rfl) rfl rfl rfl fun _ _ => ?_
    refine DJ_onL TT_ok [6] rfl ?_
    refine DJ_endA TT_ok rfl ?_
    rw [hS]
    refine T_drawA TT_ok [] rfl rfl fun B0 H0 => ?_
    refine DJ_endA TT_ok rfl ?_
    refine T_cond (b := false) ?_ (fun e => by cases e) (fun _ => ?_)
    · have e0 : (((setsAt ((wantsM t).getD i 0) t.sets).length : Int) == 0) = false := by simpa using hpos
      have e3 : (bif decide ((i : Int) > 0) then decide ((wantsM t).getD ((i : Int)).toNat 0 ≤ (wantsM t).getD ((i : Int) - 1).toNat 0) else false) = false := by
        rcases Nat.eq_zero_or_pos i with h0 | h0
        · rw [decide_eq_false (by omega)]; rfl
        · rw [decide_eq_true (by omega)]
          have := hrise h0
          exact decide_eq_false (by rw [show ((i : Int)).toNat = i from rfl, show ((i : Int) - 1).toNat = i - 1 from by omega]; omega)
      show some (SV.a (.v (.bool (bif ((setsAt ((wantsM t).getD i 0) t.sets).length : Int) == 0 then true else bif decide ((i : Int) > 0) then decide ((wantsM t).getD ((i : Int)).toNat 0 ≤ (wantsM t).getD ((i : Int) - 1).toNat 0) else false)))) = _
      rw [e0, e3]; rfl
    refine T_auto TT_ok rfl ?_
    refine X_inv (i + 1) hi (by omega) ⟨⟨_, rfl, SV.imp_refl _⟩, ⟨_, rfl, SV.imp_of (vI_eq ?_)⟩, (by repeat (first | exact trivial | refine And.intro ⟨_, rfl, SV.imp_refl _⟩ ?_))⟩ (by repeat (first | exact trivial | refine And.intro ⟨_, rfl, Ch.imp_refl _⟩ ?_))
    rw [sumW_take (z := 0) hi, Int.natCast_add]
  have hi : i = (wantsM t).length := by omega
  subst hi
  have hsum : sumW (fun r => (setsAt r t.sets).length) ((wantsM t).take (wantsM t).length) = t.sets.length := by rw [List.take_length]; exact cnt_all f1 f2
  rw [hsum]
  have hC : checksM t = t.reads.filter (noSet t) := by unfold checksM; rw [if_pos hok]
  have hno : ∀ i, i < (checksM t).length → ∀ k, k < t.sets.length → atCell ((checksM t).getD i GNote.z).region ((checksM t).getD i GNote.z).slot (t.sets.getD k GSet.z) = false := fun i hi k hk => by
    have h2 : (checksM t).getD i GNote.z ∈ t.reads.filter (noSet t) := by rw [← hC]; exact getD_mem hi
    have h3 := of_decide_eq_true (List.mem_filter.1 h2).2
    cases h : atCell ((checksM t).getD i GNote.z).region ((checksM t).getD i GNote.z).slot (t.sets.getD k GSet.z) with
    | false => rfl
    | true => exact absurd ((any_idx (z := GSet.z)).2 (List.any_eq_true.2 ⟨_, getD_mem (z := GSet.z) hk, h⟩)) (by omega)
  refine T_auto TT_ok rfl ?_
  refine T_loopA (ι := Nat) (fun i => [(9, vI i)]) (fun _ => []) (fun i => i ≤ (checksM t).length) (fun i => (checksM t).length - i) 0 [] [] rfl rfl (Nat.zero_le _) (by repeat (first | exact trivial | refine And.intro ⟨_, rfl, SV.imp_refl _⟩ ?_)) (by repeat (first | exact trivial | refine And.intro ⟨_, rfl, Ch.imp_refl _⟩ ?_)) ?_
  intro i h3
  refine T_auto TT_ok rfl ?_
  refine T_condD rfl (fun e4 => ?_) (fun e4 => ?_)
  · have hi : i < (checksM t).length := by omega
    refine T_auto TT_ok rfl ?_
    refine T_loopA (ι := Nat) (fun k => [(10, vI k)]) (fun _ => []) (fun k => k ≤ t.sets.length) (fun k => t.sets.length - k) 0 [] [] rfl rfl (Nat.zero_le _) (by repeat (first | exact trivial | refine And.intro ⟨_, rfl, SV.imp_refl _⟩ ?_)) (by repeat (first | exact trivial | refine And.intro ⟨_, rfl, Ch.imp_refl _⟩ ?_)) ?_
    intro k h5
    refine T_auto TT_ok rfl ?_
    refine T_condD rfl (fun e6 => ?_) (fun e6 => ?_)
    · have hk : k < t.sets.length := by omega
      refine T_auto TT_ok rfl ?_
      refine T_drawA TT_ok [] rfl rfl fun B0 H0 => ?_
      refine DJ_endA TT_ok rfl ?_
      refine T_cond (b := atCell ((checksM t).getD i GNote.z).region ((checksM t).getD i GNote.z).slot (t.sets.getD k GSet.z)) rfl (fun e => by rw [hno i hi k hk] at e; cases e) (fun _ => ?_)
      refine T_auto TT_ok rfl ?_
      exact X_inv (k + 1) hk (by omega) (by repeat (first | exact trivial | refine And.intro ⟨_, rfl, SV.imp_refl _⟩ ?_)) (by repeat (first | exact trivial | refine And.intro ⟨_, rfl, Ch.imp_refl _⟩ ?_))
    · refine T_auto TT_ok rfl ?_
      exact X_inv (i + 1) hi (by omega) (by repeat (first | exact trivial | refine And.intro ⟨_, rfl, SV.imp_refl _⟩ ?_)) (by repeat (first | exact trivial | refine And.intro ⟨_, rfl, Ch.imp_refl _⟩ ?_))
  · have g1 : (checksM t).length ≤ t.reads.length := by rw [hC]; exact List.length_filter_le _ _
    have g2 : t.reads.length ≤ (checksM t).length + t.sets.length := by
      rw [hC]
      exact reads_le (sortedN_of hok.2.1) (noSet t) fun m hm hf => by
        have h0 : 0 ≤ idxI (atCell m.region m.slot) t.sets := by
          have := of_decide_eq_false hf
          omega
        obtain ⟨s, s1, s2⟩ := List.any_eq_true.1 ((any_idx (z := GSet.z)).1 h0)
        exact ⟨s, s1, s2⟩
    refine T_auto TT_ok rfl ?_
    exact T_ansB TT_ok [(2, none)] rfl rfl ((by simp; omega))
def RelI (l m : List V) : Prop := ∀ B Z vs, V.rels B Z l vs → V.rels B Z m vs
theorem RelI.e : RelI [] [] := fun _ _ _ e => e
theorem RelI.c {x : V} {l m : List V} (k : RelI l m) : RelI (x :: l) (x :: m) := fun _ _ _ ⟨y, t, e1, e2, e3⟩ => ⟨y, t, e1, e2, k _ _ _ e3⟩
theorem RelI.n {q : Tg} {sz : Nat} {f : Nat → List D} {l m : List V} (k : RelI l m) : RelI (.v (.slice none 0 0) :: l) (.s q sz 0 f :: m) := fun _ _ _ ⟨y, t, e1, e2, e3⟩ => ⟨y, t, e1, by
  have e2 : y = .slice none 0 0 := e2
  subst e2; exact ⟨none, 0, rfl, Nat.le_refl _, Nat.zero_le _, .inl rfl⟩, k _ _ _ e3⟩
theorem SV.imp_agI {P : Program} {l m : List V} (h : RelI l m) : (SV.ag l).imp P (.ag m) := fun B Z _ ⟨vs, e1, e2⟩ => ⟨vs, e1, h B Z vs e2⟩
theorem zTx_imp {P : Program} : (SV.ag [.v (.int .i64 0), .v (.int .i64 0), .v (.int .i64 0), .v (.int .i64 0), nilV, nilV, .v (.int .i64 0)]).imp P (vR (cTx GTx.z)) := SV.imp_agI (RelI.c (RelI.c (RelI.c (RelI.c (RelI.n (RelI.n (RelI.c RelI.e)))))))
theorem setB_iff {x : GSet} : setB x = true ↔ (0 ≤ x.region ∧ x.region ≤ 5) ∧ (0 ≤ x.slot ∧ x.slot ≤ 5) ∧ (-1000000000 ≤ x.value ∧ x.value ≤ 1000000000) ∧ (0 ≤ x.version ∧ x.version ≤ 999999) := by
  rw [← inB_iff, ← inB_iff, ← inB_iff, ← inB_iff]
  unfold setB
  cases inB x.region 0 5 <;> cases inB x.slot 0 5 <;> cases inB x.value (-1000000000) 1000000000 <;> cases inB x.version 0 999999 <;> simp
theorem noted_q {n : Nat} {β : Nat → Int} (hβ : byteB β) : Ans Try.prog 4 [701] [.a (.g 701)] [(701, bytC n β)] (vB true) := by
  refine con_enter Try.func4 rfl rfl rfl fun B0 r_ D_ w0 => ?_
  refine T_auto TT_ok rfl ?_
  refine RJ_Q TT_ok (big_q n _) rfl rfl rfl rfl rfl ?_
  refine T_condD rfl (fun e => ?_) (fun e => ?_)
  · refine T_auto TT_ok rfl ?_
    exact T_ansB TT_ok [(2, none)] rfl rfl (rfl)
  have hn : n ≤ 1048576 := by omega
  refine T_auto TT_ok rfl ?_
  refine RJ_C (nk := [31, 32]) TT_ok (Con.sw 901 31 (Con.sw 902 32 (drawAddRead_c hn hβ))) rfl rfl (SVs.imp_refl _) (fun _ => rfl) rfl rfl rfl fun y ht => ?_
  obtain ⟨t, x⟩ := y
  have l1 : t.reads.length ≤ 13 := ht.1
  have l2 : t.sets.length ≤ 13 := ht.2
  have hb := small_bd ht (by decide)
  have l3 := small_read t x
  have hb3 := small_bd l3 (by decide)
  have l4 : (addReadM t x).1.reads.length ≤ 12 ∧ (addReadM t x).1.sets.length ≤ 12 := l3
  refine RJ_auto TT_ok rfl ?_
  refine RJ_C TT_ok (Con.sw 901 41 (Con.sw 902 42 (impl_AddRead_m t hb x))) rfl rfl (SVs.imp_refl _) (fun _ => rfl) rfl rfl rfl fun _ _ => ?_
  refine RJ_auto TT_ok rfl ?_
  refine RJ_C TT_ok (Con.sw 901 43 (Con.sw 902 44 (spec_AddRead_m t hb x))) rfl rfl (SVs.imp_refl _) (fun _ => rfl) rfl rfl rfl fun _ _ => ?_
  refine RJ_auto TT_ok rfl ?_
  refine RJ_Q TT_ok (likeTx_q _ (by omega) (by omega)) rfl rfl rfl rfl rfl ?_
  refine T_cond rfl (fun e => by simp at e) (fun _ => ?_)
  refine T_auto TT_ok rfl ?_
  refine RJ_C (nk := [51, 52]) TT_ok (Con.sw 901 51 (Con.sw 902 52 (drawAddSet_c hn hβ))) rfl rfl (SVs.imp_refl _) (fun _ => rfl) rfl rfl rfl fun y hu => ?_
  obtain ⟨u, s⟩ := y
  have m1 : u.reads.length ≤ 13 := hu.1
  have m2 : u.sets.length ≤ 13 := hu.2
  have hbu := small_bd hu (by decide)
  have m3 := small_set u s
  have hb5 := small_bd m3 (by decide)
  have m4 : (addSetM u s).1.reads.length ≤ 12 ∧ (addSetM u s).1.sets.length ≤ 12 := m3
  refine RJ_auto TT_ok rfl ?_
  refine RJ_C TT_ok (Con.sw 901 61 (Con.sw 902 62 (impl_AddSet_m u hbu s))) rfl rfl (SVs.imp_refl _) (fun _ => rfl) rfl rfl rfl fun _ _ => ?_
  refine RJ_auto TT_ok rfl ?_
  refine RJ_C TT_ok (Con.sw 901 63 (Con.sw 902 64 (spec_AddSet_m u hbu s))) rfl rfl (SVs.imp_refl _) (fun _ => rfl) rfl rfl rfl fun _ _ => ?_
  refine RJ_auto TT_ok rfl ?_
  refine RJ_Q TT_ok (likeTx_q (addSetM u s).1 (by omega) (by omega)) rfl rfl rfl rfl rfl ?_
  refine T_cond rfl (fun e => by simp at e) (fun _ => ?_)
  refine T_auto TT_ok rfl ?_
  refine T_joinA (ι := Unit) (fun _ => []) (fun _ => []) (fun _ => True) [] [] rfl rfl ?_ ?_
  · refine T_cond rfl (fun is => ?_) (fun _ => ?_)
    · obtain ⟨p1, p2, p3⟩ := addRead_twice is
      refine T_auto TT_ok rfl ?_
      refine RJ_C TT_ok (Con.sw 901 71 (Con.sw 902 72 (impl_AddRead_m _ hb3 x))) rfl rfl (SVs.imp_refl _) (fun _ => rfl) rfl rfl rfl fun _ _ => ?_
      refine RJ_auto TT_ok rfl ?_
      rw [p3]
      refine RJ_Q TT_ok (likeTx_q (addReadM t x).1 (by omega) (by omega)) rfl rfl rfl rfl rfl ?_
      refine RJ_Q TT_ok (impl_TxOk_q _) rfl rfl rfl rfl rfl ?_
      refine T_cond (b := false) ?_ (fun e => by cases e) (fun _ => ?_)
      · rw [dec_true p1]
        have e0 : decide (((addReadM t x).1.reads.length : Int) > (t.reads.length : Int) + 1) = false := decide_eq_false (by omega)
        show some (SV.a (.v (.bool (decide (((addReadM t x).1.reads.length : Int) > (t.reads.length : Int) + 1))))) = _
        rw [e0]
      refine T_auto TT_ok rfl ?_
      exact X_inv () trivial Nat.zero_lt_one (by repeat (first | exact trivial | refine And.intro ⟨_, rfl, SV.imp_refl _⟩ ?_)) (by repeat (first | exact trivial | refine And.intro ⟨_, rfl, Ch.imp_refl _⟩ ?_))
    · refine T_auto TT_ok rfl ?_
      exact X_inv () trivial Nat.zero_lt_one (by repeat (first | exact trivial | refine And.intro ⟨_, rfl, SV.imp_refl _⟩ ?_)) (by repeat (first | exact trivial | refine And.intro ⟨_, rfl, Ch.imp_refl _⟩ ?_))
  rintro ⟨⟩ _
  refine X_go TT_ok rfl ?_
  refine T_condX rfl (fun e1 => ?_) (fun fine => ?_)
  · have hz : (addSetM u s).1 = GTx.z := by
      unfold addSetM at e1 ⊢
      split
      · rename_i c; rw [if_pos c] at e1; cases e1
      · rfl
    rw [hz]
    refine T_auto TT_ok rfl ?_
    refine RJ_QF TT_ok (likeTx_q GTx.z (Nat.zero_le _) (Nat.zero_le _)) rfl rfl (SVs.cons (SV.imp_refl _) (SVs.cons zTx_imp rfl)) rfl rfl ?_
    exact T_ansB TT_ok [(2, none)] rfl rfl (rfl)
  obtain ⟨q1, q2, q3, q4⟩ := addSetM_of fine
  have hr := setB_iff.1 q2
  have hv : 0 ≤ (s.version + 1).tmod 9 ∧ (s.version + 1).tmod 9 < 9 := ⟨Int.tmod_nonneg _ (by omega), Int.tmod_lt_of_pos _ (by decide)⟩
  have hw : setB ⟨s.region, s.slot, 3, s.used, (s.version + 1).tmod 9⟩ = true := setB_iff.2 (by dsimp only; omega)
  obtain ⟨p1, p2, p3, p4⟩ := addSet_twice fine hw rfl rfl
  refine T_auto TT_ok rfl ?_
  refine RJ_C TT_ok (Con.sw 901 71 (Con.sw 902 72 (impl_AddSet_m (addSetM u s).1 hb5 ⟨s.region, s.slot, 3, s.used, (s.version + 1).tmod 9⟩))) rfl rfl (SVs.imp_refl _) (fun _ => rfl) rfl rfl rfl fun _ _ => ?_
  refine RJ_auto TT_ok rfl ?_
  generalize addSetM (addSetM u s).1 ⟨s.region, s.slot, 3, s.used, (s.version + 1).tmod 9⟩ = z at p2 p3 p4 ⊢
  refine RJ_Q TT_ok (impl_TxOk_q _) rfl rfl rfl rfl rfl ?_
  refine T_cond (b := false) ?_ (fun e => by cases e) (fun _ => ?_)
  · show some (SV.a (.v (.bool _))) = _
    refine congrArg (fun b => some (SV.a (V.v (Value.bool b)))) ?_
    rw [dec_true p1, p2, p3]
    simp
  refine T_auto TT_ok rfl ?_
  refine T_loopA (ι := Nat) (fun i => [(20, vI i)]) (fun _ => []) (fun i => i ≤ (addSetM u s).1.sets.length) (fun i => (addSetM u s).1.sets.length - i) 0 [] [] rfl rfl (Nat.zero_le _) (by repeat (first | exact trivial | refine And.intro ⟨_, rfl, SV.imp_refl _⟩ ?_)) (by repeat (first | exact trivial | refine And.intro ⟨_, rfl, Ch.imp_refl _⟩ ?_)) ?_
  intro i h1
  refine T_auto TT_ok rfl ?_
  refine T_condD rfl (fun e2 => ?_) (fun e2 => ?_)
  · have hi : i < (addSetM u s).1.sets.length := by omega
    have hi2 : i < z.1.sets.length := by omega
    refine T_auto TT_ok rfl ?_
    refine T_drawA TT_ok [] rfl rfl fun B0 H0 => ?_
    refine DJ_endA TT_ok rfl ?_
    refine T_condN rfl (fun e => absurd (p4 i) e) (fun _ => ?_)
    refine T_auto TT_ok rfl ?_
    exact X_inv (i + 1) hi (by omega) (by repeat (first | exact trivial | refine And.intro ⟨_, rfl, SV.imp_refl _⟩ ?_)) (by repeat (first | exact trivial | refine And.intro ⟨_, rfl, Ch.imp_refl _⟩ ?_))
  · refine T_auto TT_ok rfl ?_
    exact T_ansB TT_ok [(2, none)] rfl rfl (rfl)
end Go.Proofs.Ytamcahpdepepfaa
