
/-
  Clusters are asked: cells, whether stricken; on both sides.
-/
import Derived.Test.YtipgpboliolphaaGreatP14
namespace Go.Proofs.YtipgpboliolphaaGreat
open Go Go.RowKit
set_option linter.unusedVariables false
set_option linter.unusedSimpArgs false
set_option maxRecDepth 4000

open Classical in
noncomputable def cellsM (c : GCluster) (r0 : Int) : List GCell × Bool := if ClusOk c ∧ (0 ≤ r0 ∧ r0 < c.places.length) ∧ (machAt c r0.toNat 0).alive = true then (cellsOf (machAt c r0.toNat 0) r0, true) else ([], false)
theorem cellsOf_le {m : GMachine} (hb : D.bds bigN (cMachine m)) (r : Int) : (cellsOf m r).length ≤ 1048576 := by
  unfold cellsOf; split
  · rename_i h
    have := hasB_idx h
    exact (hb.2.1.2 (idxI (atB r) m.copies).toNat (by omega)).2.1.1
  · exact Nat.zero_le _
theorem inB_off {r0 : Int} {n : Nat} : inB r0 0 ((n : Int) - 1) = decide (0 ≤ r0 ∧ r0 < n) := by
  rw [Bool.eq_iff_iff, inB_iff, decide_eq_true_eq]; omega
theorem impl_primary_q (c : GCluster) (hok : ClusOk c) (r0 : Int) (hr : 0 ≤ r0 ∧ r0 < c.places.length) : Ans Tryz.prog 70 [] [vP (cCluster c), vI r0] [] (vP (cMachine (machAt c r0.toNat 0))) := by
  have h := primary_q c r0.toNat (by omega) (by have := hok.pl (r := r0.toNat) (by omega); omega) (hok.at (r := r0.toNat) (k := 0) (by omega) (by have := hok.pl (r := r0.toNat) (by omega); omega)).1
  rwa [Int.toNat_of_nonneg hr.1] at h
/-! ### whether stricken -/
theorem l11Down_i (c : GCluster) (b1 : c.places.length ≤ 1048576) (hok : ClusOk c) (r0 : Int) (hr : 0 ≤ r0 ∧ r0 < c.places.length) : Ans Tryz.prog 174 [] [vR (cCluster c), vI r0] [] (vB (downB c r0.toNat)) := by
  have h := l11Down_q c b1 hok r0.toNat (by omega)
  rwa [Int.toNat_of_nonneg hr.1] at h
def homeB (c : GCluster) (t : GTx) : Bool := (c.machines.getD t.home.toNat GMachine.z).alive
def checksL (t : GTx) : List GNote := t.reads.filter (noSet t)
/-- has it to be voted on? -/
def strB (c : GCluster) (t : GTx) : Bool := if t.phase = 1 then !homeB c t else if t.phase = 7 ∨ t.phase = 9 then false else if homeB c t = false then true else (t.sets.any fun s => downB c s.region.toNat) || (checksL t).any fun n => downB c n.region.toNat
/-- a transaction of a right cluster -/
structure TxIn (c : GCluster) (t : GTx) : Prop where
  ok : TxOk t
  home : 0 ≤ t.home ∧ t.home < c.machines.length
  note : ∀ k, k < t.reads.length → 0 ≤ (t.reads.getD k GNote.z).region ∧ (t.reads.getD k GNote.z).region < c.places.length
  set : ∀ k, k < t.sets.length → 0 ≤ (t.sets.getD k GSet.z).region ∧ (t.sets.getD k GSet.z).region < c.places.length
theorem ClusOk.txIn {c : GCluster} (h : ClusOk c) {i : Nat} (hi : i < c.txs.length) : TxIn c (c.txs.getD i GTx.z) := by
  refine ⟨h.tx hi, ⟨(h.tx hi).1.2.1.1, ?_⟩, fun k hk => h.note hi hk, fun k hk => h.set hi hk⟩
  have h1 := (h.2.2.2.2 i hi).1
  unfold badTx at h1
  simp only [Bool.cond_true_left, Bool.or_eq_false_iff, decide_eq_false_iff_not] at h1
  have := h1.1.2
  omega
theorem checksL_in {c : GCluster} {t : GTx} (h : TxIn c t) {k : Nat} (hk : k < (checksL t).length) : 0 ≤ ((checksL t).getD k GNote.z).region ∧ ((checksL t).getD k GNote.z).region < c.places.length := by
  have hm : (checksL t).getD k GNote.z ∈ t.reads := by
    have : (checksL t).getD k GNote.z = (checksL t)[k] := by rw [List.getD_eq_getElem?_getD, List.getElem?_eq_getElem hk]; rfl
    rw [this]
    exact (List.mem_filter.1 (List.getElem_mem hk)).1
  obtain ⟨j, hj, e⟩ := List.mem_iff_getElem.1 hm
  have h2 := h.note j hj
  rwa [show t.reads.getD j GNote.z = (checksL t).getD k GNote.z from by rw [List.getD_eq_getElem?_getD, List.getElem?_eq_getElem hj]; exact e] at h2
theorem spec_l11Stricken_q (c : GCluster) (hb : D.bds bigN (cCluster c)) (hok : ClusOk c) (t : GTx) (ht : TxIn c t) : Ans Tryz.prog 99 [] [vR (cCluster c), vR (cTx t)] [] (vB (strB c t)) := by
  have b1 : c.places.length ≤ 1048576 := hb.2.2.1.1
  have r1 : t.reads.length ≤ 1048576 := by have := ht.ok.1; unfold headOk at this; omega
  have r2 : t.sets.length ≤ 1048576 := by have := ht.ok.1; unfold headOk at this; omega
  have hh := ht.home
  have hcl : (checksL t).length ≤ t.reads.length := List.length_filter_le _ _
  refine con_enter Tryz.func99 rfl rfl rfl fun B0 r_ D_ w0 => ?_
  refine T_auto1 TT_ok rfl ?_
  refine T_freeze 2 rfl rfl rfl rfl (fun _ => rfl) (fun _ => rfl) fun r_ => ?_
  refine T_freeze 3 rfl rfl rfl rfl (fun _ => rfl) (fun _ => rfl) fun r_ => ?_
  refine T_auto TT_ok rfl ?_
  refine T_condE rfl (fun e1 => ?_) (fun e1 => ?_)
  · refine T_auto TT_ok rfl ?_
    exact T_ansB TT_ok [(4, none)] rfl rfl ((by rw [strB, if_pos e1]; rfl))
  refine T_auto TT_ok rfl ?_
  refine T_condE rfl (fun e2 => ?_) (fun e2 => ?_)
  · refine T_auto TT_ok rfl ?_
    refine T_cond rfl (fun _ => ?_) (fun e => absurd e2 (by simpa using e))
    refine T_auto TT_ok rfl ?_
    exact T_ansB TT_ok [(4, none)] rfl rfl ((by rw [strB, if_neg e1, if_pos (.inl e2)]))
  refine T_auto TT_ok rfl ?_
  refine T_condE rfl (fun e3 => ?_) (fun e3 => ?_)
  · refine T_auto TT_ok rfl ?_
    exact T_ansB TT_ok [(4, none)] rfl rfl ((by rw [strB, if_neg e1, if_pos (.inr e3)]))
  have hstr : strB c t = if homeB c t = false then true else (t.sets.any fun s => downB c s.region.toNat) || (checksL t).any fun n => downB c n.region.toNat := by
    rw [strB, if_neg e1, if_neg (by omega)]
  rw [hstr]
  clear hstr
  refine T_auto TT_ok rfl ?_
  refine T_condX rfl (fun e4 => ?_) (fun e4 => ?_)
  · refine T_auto TT_ok rfl ?_
    exact T_ansB TT_ok [(4, none)] rfl rfl ((by rw [if_pos (show homeB c t = false from e4)]))
  rw [if_neg (show ¬ homeB c t = false from by rw [show homeB c t = true from e4]; simp)]
  refine T_auto TT_ok rfl ?_
  refine T_loopA (ι := Nat) (fun i => [(6, vI i)]) (fun _ => []) (fun i => i ≤ t.sets.length ∧ ∀ j, j < i → downB c (t.sets.getD j GSet.z).region.toNat = false) (fun i => t.sets.length - i) 0 [] [] rfl rfl ⟨Nat.zero_le _, fun j hj => absurd hj (Nat.not_lt_zero _)⟩ (by repeat (first | exact trivial | refine And.intro ⟨_, rfl, SV.imp_refl _⟩ ?_)) (by repeat (first | exact trivial | refine And.intro ⟨_, rfl, Ch.imp_refl _⟩ ?_)) ?_
  intro i ⟨h1, h2⟩
  refine T_auto TT_ok rfl ?_
  refine T_condD rfl (fun e => ?_) (fun e => ?_)
  · have hi : i < t.sets.length := by omega
    refine T_auto TT_ok rfl ?_
    refine T_drawA TT_ok [] rfl rfl fun B0 H0 => ?_
    refine DJ_Q TT_ok (l11Down_i c b1 hok _ (ht.set i hi)) rfl rfl rfl rfl rfl rfl ?_
    refine DJ_endA TT_ok rfl ?_
    refine T_cond rfl (fun e5 => ?_) (fun e5 => ?_)
    · refine T_auto TT_ok rfl ?_
      exact T_ansB TT_ok [(4, none)] rfl rfl ((by rw [any_at (p := fun s => downB c s.region.toNat) hi e5]; rfl))
    · refine T_auto TT_ok rfl ?_
      exact X_inv (i + 1) ⟨hi, before_succ h2 e5⟩ (by omega) (by repeat (first | exact trivial | refine And.intro ⟨_, rfl, SV.imp_refl _⟩ ?_)) (by repeat (first | exact trivial | refine And.intro ⟨_, rfl, Ch.imp_refl _⟩ ?_))
  have hs : (t.sets.any fun s => downB c s.region.toNat) = false := any_no (z := GSet.z) fun j hj => h2 j (by omega)
  rw [hs]
  refine T_auto TT_ok rfl ?_
  refine RJ_C TT_ok (Con.sw 900 42 (l7Checks_m t r1 r2)) rfl rfl (SVs.imp_refl _) (fun _ => rfl) rfl rfl rfl fun _ _ => ?_
  refine RJ_auto TT_ok rfl ?_
  refine T_loopA (ι := Nat) (fun i => [(8, vI i)]) (fun _ => []) (fun i => i ≤ (checksL t).length ∧ ∀ j, j < i → downB c ((checksL t).getD j GNote.z).region.toNat = false) (fun i => (checksL t).length - i) 0 [] [] rfl rfl ⟨Nat.zero_le _, fun j hj => absurd hj (Nat.not_lt_zero _)⟩ (by repeat (first | exact trivial | refine And.intro ⟨_, rfl, SV.imp_refl _⟩ ?_)) (by repeat (first | exact trivial | refine And.intro ⟨_, rfl, Ch.imp_refl _⟩ ?_)) ?_
  intro i ⟨h3, h4⟩
  have hcl2 : (t.reads.filter (noSet t)).length ≤ t.reads.length := hcl
  refine T_auto TT_ok rfl ?_
  refine T_condD rfl (fun e6 => ?_) (fun e6 => ?_)
  · have hi : i < (checksL t).length := by have : (i : Int) < (checksL t).length := e6; omega
    have hi2 : i < (t.reads.filter (noSet t)).length := hi
    refine T_auto TT_ok rfl ?_
    refine T_drawA TT_ok [] rfl rfl fun B0 H0 => ?_
    refine DJ_Q TT_ok (l11Down_i c b1 hok _ (checksL_in ht hi)) rfl rfl rfl rfl rfl rfl ?_
    refine DJ_endA TT_ok rfl ?_
    refine T_cond rfl (fun e5 => ?_) (fun e5 => ?_)
    · refine T_auto TT_ok rfl ?_
      exact T_ansB TT_ok [(4, none)] rfl rfl ((by rw [any_at (p := fun n => downB c n.region.toNat) hi e5]; rfl))
    · refine T_auto TT_ok rfl ?_
      exact X_inv (i + 1) ⟨hi, before_succ h4 e5⟩ (by omega) (by repeat (first | exact trivial | refine And.intro ⟨_, rfl, SV.imp_refl _⟩ ?_)) (by repeat (first | exact trivial | refine And.intro ⟨_, rfl, Ch.imp_refl _⟩ ?_))
  · refine T_auto TT_ok rfl ?_
    exact T_ansB TT_ok [(4, none)] rfl rfl ((by rw [any_no (z := GNote.z) fun j hj => h4 j (by have : ¬ (i : Int) < (checksL t).length := e6; omega)]; rfl))
open Classical in
noncomputable def strickenM (c : GCluster) (id : Int) : Bool := if ClusOk c ∧ 0 ≤ findI c id then strB c (c.txs.getD (findI c id).toNat GTx.z) else false
theorem downs_q (c : GCluster) (hb : D.bds bigN (cCluster c)) (m0 : Int) (hm : 0 ≤ m0 ∧ m0 < c.machines.length) : Ans Tryz.prog 251 [] [vI m0, vP [.pt (cCluster c) 0]] [] (vB (!(c.machines.getD m0.toNat GMachine.z).alive)) := by
  refine con_enter Tryz.func251 rfl rfl rfl fun B0 r_ D_ w0 => ?_
  refine T_auto TT_ok rfl ?_
  exact T_ansB TT_ok [(3, none)] rfl rfl (rfl)
theorem down_any (c : GCluster) (r : Nat) : ((c.places.getD r GPlace.z).machines.any fun m => !(c.machines.getD m.toNat GMachine.z).alive) = downB c r := by
  unfold downB
  rcases hx : anyN (c.places.getD r GPlace.z).machines.length fun k => !(machAt c r k).alive with _ | _
  · exact any_no (z := 0) fun j hj => anyN_get hx j hj
  · obtain ⟨k, hk, h1⟩ := List.any_eq_true.1 hx
    exact any_at (z := 0) (List.mem_range.1 hk) h1
theorem stricken1_q (c : GCluster) (hb : D.bds bigN (cCluster c)) (hok : ClusOk c) (r0 : Int) (hr : 0 ≤ r0 ∧ r0 < c.places.length) : Ans Tryz.prog 250 [] [vI r0, vP [.pt (cCluster c) 0]] [] (vB (downB c r0.toNat)) := by
  have hpl := hok.pl (r := r0.toNat) (by omega)
  refine con_enter Tryz.func250 rfl rfl rfl fun B0 r_ D_ w0 => ?_
  refine T_auto TT_ok rfl ?_
  refine RJ_QF TT_ok (containsFuncInt64_p (c.places.getD r0.toNat GPlace.z).machines (by omega) (fun m => 0 ≤ m ∧ m < c.machines.length) (fun k hk => (hok.at (by omega) hk).1) fun m => !(c.machines.getD m.toNat GMachine.z).alive) rfl rfl (SVs.cons (SV.imp_refl _) (SVs.cons (imp_fb (enters_B (by kernel_rfl)) rfl fun args x ⟨n, hn, e1, e2⟩ => by subst e1; subst e2; exact downs_q c hb n hn) rfl)) rfl rfl ?_
  exact T_ansB TT_ok [(3, none)] rfl rfl (down_any c r0.toNat)
theorem cmI_mem {xs : List Int} {x : Int} : ∀ {k : Nat}, k ≤ xs.length → (x ∈ cmI xs k ↔ ∃ j, j < k ∧ xs.getD j 0 = x)
  | 0, _ => by simp [cmI]
  | k + 1, h => by
    have ih := cmI_mem (xs := xs) (x := x) (k := k) (by omega)
    by_cases c : k = 0 ∨ xs.getD k 0 ≠ xs.getD (k - 1) 0
    · rw [cmI_yes c, List.mem_append, ih]
      constructor
      · rintro (⟨j, h1, h2⟩ | h1)
        · exact ⟨j, by omega, h2⟩
        · exact ⟨k, by omega, (List.mem_singleton.1 h1).symm⟩
      · rintro ⟨j, h1, h2⟩
        by_cases hj : j = k
        · subst hj; exact .inr (List.mem_singleton.2 h2.symm)
        · exact .inl ⟨j, by omega, h2⟩
    · have c0 : 0 < k := by omega
      have c1 : xs.getD k 0 = xs.getD (k - 1) 0 := by
        by_cases h : xs.getD k 0 = xs.getD (k - 1) 0
        · exact h
        · exact absurd (.inr h) c
      rw [cmI_no c0 c1, ih]
      constructor
      · rintro ⟨j, h1, h2⟩; exact ⟨j, by omega, h2⟩
      · rintro ⟨j, h1, h2⟩
        by_cases hj : j = k
        · subst hj; exact ⟨j - 1, by omega, c1.symm.trans h2⟩
        · exact ⟨j, by omega, h2⟩
/-- the regions that are looked at -/
abbrev lookL (t : GTx) (i : Nat) : List Int := cmI (regsOf t) (regsOf t).length ++ ((checksL t).take i).map GNote.region
theorem look_any (c : GCluster) (t : GTx) : ((lookL t (checksL t).length).any fun r => downB c r.toNat) = ((t.sets.any fun s => downB c s.region.toNat) || (checksL t).any fun n => downB c n.region.toNat) := by
  rw [List.any_append, List.take_length, List.any_map]
  congr 1
  rw [Bool.eq_iff_iff, List.any_eq_true, List.any_eq_true]
  constructor
  · rintro ⟨x, hx, h1⟩
    obtain ⟨j, hj, e⟩ := (cmI_mem (Nat.le_refl _)).1 hx
    rw [regsOf_len] at hj
    rw [regsOf_at] at e
    refine ⟨t.sets.getD j GSet.z, ?_, by rw [e]; exact h1⟩
    rw [List.getD_eq_getElem?_getD, List.getElem?_eq_getElem hj]; exact List.getElem_mem hj
  · rintro ⟨s, hs, h1⟩
    obtain ⟨j, hj, e⟩ := List.mem_iff_getElem.1 hs
    refine ⟨s.region, (cmI_mem (Nat.le_refl _)).2 ⟨j, by rw [regsOf_len]; exact hj, ?_⟩, h1⟩
    rw [regsOf_at, List.getD_eq_getElem?_getD, List.getElem?_eq_getElem hj]; exact congrArg GSet.region e
theorem str_dead {c : GCluster} {t : GTx} (h : homeB c t = false) : (bif t.phase != 7 then t.phase != 9 else false) = strB c t := by
  unfold strB
  rw [h]
  by_cases h7 : t.phase = 7
  · simp [h7]
  · by_cases h9 : t.phase = 9
    · simp [h9]
    · simp [h7, h9]
theorem str_still {c : GCluster} {t : GTx} (h : homeB c t = true) (h2 : t.phase = 1 ∨ t.phase = 7 ∨ t.phase = 9) : false = strB c t := by
  unfold strB
  rw [h]
  rcases h2 with h | h | h <;> simp [h]
theorem look_in {c : GCluster} {t : GTx} (ht : TxIn c t) : ∀ k, k < (lookL t (checksL t).length).length → 0 ≤ (lookL t (checksL t).length).getD k 0 ∧ (lookL t (checksL t).length).getD k 0 < c.places.length := fun k hk => by
  have hm : (lookL t (checksL t).length).getD k 0 ∈ lookL t (checksL t).length := by
    rw [List.getD_eq_getElem?_getD, List.getElem?_eq_getElem hk]; exact List.getElem_mem hk
  rcases List.mem_append.1 hm with h | h
  · obtain ⟨j, hj, e⟩ := (cmI_mem (Nat.le_refl _)).1 h
    rw [regsOf_len] at hj
    rw [regsOf_at] at e
    rw [← e]; exact ht.set j hj
  · rw [List.take_length] at h
    obtain ⟨n, hn, e⟩ := List.mem_map.1 h
    obtain ⟨j, hj, e2⟩ := List.mem_iff_getElem.1 hn
    rw [← e, ← e2]
    have := checksL_in ht hj
    rwa [List.getD_eq_getElem?_getD, List.getElem?_eq_getElem hj] at this
theorem impl_stricken_q (c : GCluster) (hb : D.bds bigN (cCluster c)) (hok : ClusOk c) (t : GTx) (ht : TxIn c t) : Ans Tryz.prog 185 [] [vP (cCluster c), vP (cTx t)] [] (vB (strB c t)) := by
  have b1 : c.places.length ≤ 1048576 := hb.2.2.1.1
  have r1 : t.reads.length ≤ 1048576 := by have := ht.ok.1; unfold headOk at this; omega
  have r2 : t.sets.length ≤ 1048576 := by have := ht.ok.1; unfold headOk at this; omega
  have r3 : t.reads.length ≤ 12 ∧ t.sets.length ≤ 12 := by have := ht.ok.1; unfold headOk at this; omega
  have hh := ht.home
  have hcl : (checksL t).length ≤ t.reads.length := List.length_filter_le _ _
  have hwl : (cmI (regsOf t) (regsOf t).length).length ≤ t.sets.length := by have := cmI_le (xs := regsOf t) (k := (regsOf t).length); rw [regsOf_len] at this ⊢; exact this
  refine con_enter Tryz.func185 rfl rfl rfl fun B0 r_ D_ w0 => ?_
  refine T_auto1 TT_ok rfl ?_
  refine T_freeze 2 rfl rfl rfl rfl (fun _ => rfl) (fun _ => rfl) fun r_ => ?_
  refine T_auto TT_ok rfl ?_
  refine T_drawA TT_ok [] rfl rfl fun B0 H0 => ?_
  refine DJ_endA TT_ok rfl ?_
  refine T_condX rfl (fun e1 => ?_) (fun e1 => ?_)
  · refine T_auto TT_ok rfl ?_
    exact T_ansB TT_ok [(4, none)] rfl rfl (str_dead e1)
  have e1' : homeB c t = true := e1
  refine T_auto TT_ok rfl ?_
  refine T_cond rfl (fun e2 => ?_) (fun e2 => ?_)
  · refine T_auto TT_ok rfl ?_
    exact T_ansB TT_ok [(4, none)] rfl rfl (str_still e1' (by simp at e2; omega))
  have e2' : ¬ t.phase = 1 ∧ ¬ (t.phase = 7 ∨ t.phase = 9) := by
    simp at e2; omega
  have hstr : strB c t = ((t.sets.any fun s => downB c s.region.toNat) || (checksL t).any fun n => downB c n.region.toNat) := by
    rw [strB, if_neg e2'.1, if_neg e2'.2, if_neg (by rw [e1']; simp)]
  rw [hstr, ← look_any]
  refine T_auto TT_ok rfl ?_
  refine RJ_C TT_ok (Con.sw 900 52 (wants_m t r2)) rfl rfl (SVs.imp_refl _) (fun _ => rfl) rfl rfl rfl fun _ _ => ?_
  refine RJ_auto TT_ok rfl ?_
  refine RJ_C TT_ok (Con.sw 900 54 (checks_m t r1 r2 (sortedS_of ht.ok.2.2))) rfl rfl (SVs.imp_refl _) (fun _ => rfl) rfl rfl rfl fun _ _ => ?_
  refine RJ_auto TT_ok rfl ?_
  refine T_loopA (ι := Nat) (fun i => [(56, vI i), (5, .a (.g 52))]) (fun i => [(52, arrC 1 cInt 0 (lookL t i))]) (fun i => i ≤ (checksL t).length) (fun i => (checksL t).length - i) 0 [52] [52] rfl rfl (Nat.zero_le _) (by repeat (first | exact trivial | refine And.intro ⟨_, rfl, SV.imp_refl _⟩ ?_)) ⟨⟨_, rfl, imp_list (by show _ = _ ++ _; simp only [List.take_zero, List.map_nil, List.append_nil])⟩, (by repeat (first | exact trivial | refine And.intro ⟨_, rfl, Ch.imp_refl _⟩ ?_))⟩ ?_
  intro i h3
  have hcl2 : (t.reads.filter (noSet t)).length ≤ t.reads.length := hcl
  have hll : (lookL t i).length ≤ t.sets.length + i := by have a1 : (((checksL t).take i).map GNote.region).length ≤ i := (by rw [List.length_map, List.length_take]; omega); rw [show (lookL t i).length = (cmI (regsOf t) (regsOf t).length).length + (((checksL t).take i).map GNote.region).length from List.length_append]; omega
  refine T_auto TT_ok rfl ?_
  refine T_condD rfl (fun e => ?_) (fun e => ?_)
  · have hi : i < (checksL t).length := by have : (i : Int) < (checksL t).length := e; omega
    have hi2 : i < (t.reads.filter (noSet t)).length := hi
    refine T_auto TT_ok rfl ?_
    refine RJ_bs TT_ok 63 (fun _ => cInt ((checksL t).getD i GNote.z).region) rfl rfl rfl rfl rfl rfl rfl (fun i hi => by rcases i with _ | i <;> first | rfl | omega) (mu1 := []) rfl rfl rfl ?_
    refine RJ_auto TT_ok rfl ?_
    refine RJ_appM TT_ok 52 63 64 rfl rfl rfl rfl rfl rfl rfl rfl rfl rfl rfl rfl ⟨by show ((lookL t i).length + 1) * 8 ≤ 140737488355328; omega, by unfold maxL; omega⟩ ?_
    refine RJ_auto TT_ok rfl ?_
    refine X_view (V_sw 52 64) ?_
    exact X_inv (i + 1) hi (by omega) (by repeat (first | exact trivial | refine And.intro ⟨_, rfl, SV.imp_refl _⟩ ?_)) ⟨⟨_, rfl, imp_app1 (x := ((checksL t).getD i GNote.z).region) (by show _ ++ _ = (_ ++ _) ++ _; rw [take_succ_getD (z := GNote.z) hi, List.map_append, List.append_assoc]; rfl) rfl⟩, (by repeat (first | exact trivial | refine And.intro ⟨_, rfl, Ch.imp_refl _⟩ ?_))⟩
  · have hi : i = (checksL t).length := by have : ¬ (i : Int) < (checksL t).length := e; omega
    subst hi
    refine T_auto TT_ok rfl ?_
    refine RJ_QF TT_ok (containsFuncInt64_p (lookL t (checksL t).length) (by omega) (fun r => 0 ≤ r ∧ r < c.places.length) (look_in ht) fun r => downB c r.toNat) rfl rfl (SVs.cons (SV.imp_refl _) (SVs.cons (imp_fb (enters_B (by kernel_rfl)) rfl fun args x ⟨n, hn, e1, e2⟩ => by subst e1; subst e2; exact stricken1_q c hb hok n hn) rfl)) rfl rfl ?_
    exact T_ansB TT_ok [(4, none)] rfl rfl (rfl)
end Go.Proofs.YtipgpboliolphaaGreat
