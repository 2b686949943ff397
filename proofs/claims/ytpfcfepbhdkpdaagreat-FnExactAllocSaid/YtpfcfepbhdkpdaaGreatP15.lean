
/-
  Clusters are asked: cells, whether stricken; on both sides.
-/
import Derived.Test.YtpfcfepbhdkpdaaGreatP14
namespace Go.Proofs.YtpfcfepbhdkpdaaGreat
open Go Go.RowKit
set_option linter.unusedVariables false
set_option linter.unusedSimpArgs false
set_option maxRecDepth 4000

open Classical in
noncomputable def cellsM (c : GCluster) (r0 : Int) : List GCell × Bool := if ClusOk c ∧ (0 ≤ r0 ∧ r0 < c.places.length) ∧ (machAt c r0.toNat 0).alive = true then (cellsOf (machAt c r0.toNat 0) r0, true) else ([], false)
theorem cellsOf_le {m : GMachine} (hb : D.bds bigN (cMachine m)) (r : Int) : (cellsOf m r).length ≤ 1048576 := by
  unfold cellsOf; split
  · rename_i h
    have := hasB_idx h
    exact (hb.2.1.2 (idxI (atB r) m.copies).toNat (by omega)).2.1.1
  · exact Nat.zero_le _
theorem inB_off {r0 : Int} {n : Nat} : inB r0 0 ((n : Int) - 1) = decide (0 ≤ r0 ∧ r0 < n) := by
  rw [Bool.eq_iff_iff, inB_iff, decide_eq_true_eq]; omega
theorem impl_primary_q (c : GCluster) (hok : ClusOk c) (r0 : Int) (hr : 0 ≤ r0 ∧ r0 < c.places.length) : Ans Tryz.prog 108 [] [vP (cCluster c), vI r0] [] (vP (cMachine (machAt c r0.toNat 0))) := by
  have h := primary_q c r0.toNat (by omega) (by have := hok.pl (r := r0.toNat) (by omega); omega) (hok.at (r := r0.toNat) (k := 0) (by omega) (by have := hok.pl (r := r0.toNat) (by omega); omega)).1
  rwa [Int.toNat_of_nonneg hr.1] at h
/-! ### whether stricken -/
def homeB (c : GCluster) (t : GTx) : Bool := (c.machines.getD t.home.toNat GMachine.z).alive
def checksL (t : GTx) : List GNote := t.reads.filter (noSet t)
/-- has it to be voted on? -/
def strB (c : GCluster) (t : GTx) : Bool := if t.phase = 1 then !homeB c t else if t.phase = 7 ∨ t.phase = 9 then false else if homeB c t = false then true else (t.sets.any fun s => downB c s.region.toNat) || (checksL t).any fun n => downB c n.region.toNat
/-- a transaction of a right cluster -/
structure TxIn (c : GCluster) (t : GTx) : Prop where
  ok : TxOk t
  home : 0 ≤ t.home ∧ t.home < c.machines.length
  note : ∀ k, k < t.reads.length → 0 ≤ (t.reads.getD k GNote.z).region ∧ (t.reads.getD k GNote.z).region < c.places.length
  set : ∀ k, k < t.sets.length → 0 ≤ (t.sets.getD k GSet.z).region ∧ (t.sets.getD k GSet.z).region < c.places.length
theorem ClusOk.txIn {c : GCluster} (h : ClusOk c) {i : Nat} (hi : i < c.txs.length) : TxIn c (c.txs.getD i GTx.z) := by
  refine ⟨h.tx hi, ⟨(h.tx hi).1.2.1.1, ?_⟩, fun k hk => h.note hi hk, fun k hk => h.set hi hk⟩
  have h1 := (h.2.2.2.2 i hi).1
  unfold badTx at h1
  simp only [Bool.cond_true_left, Bool.or_eq_false_iff, decide_eq_false_iff_not] at h1
  have := h1.1.2
  omega
theorem checksL_in {c : GCluster} {t : GTx} (h : TxIn c t) {k : Nat} (hk : k < (checksL t).length) : 0 ≤ ((checksL t).getD k GNote.z).region ∧ ((checksL t).getD k GNote.z).region < c.places.length := by
  have hm : (checksL t).getD k GNote.z ∈ t.reads := by
    have : (checksL t).getD k GNote.z = (checksL t)[k] := by rw [List.getD_eq_getElem?_getD, List.getElem?_eq_getElem hk]; rfl
    rw [this]
    exact (List.mem_filter.1 (List.getElem_mem hk)).1
  obtain ⟨j, hj, e⟩ := List.mem_iff_getElem.1 hm
  have h2 := h.note j hj
  rwa [show t.reads.getD j GNote.z = (checksL t).getD k GNote.z from by rw [List.getD_eq_getElem?_getD, List.getElem?_eq_getElem hj]; exact e] at h2
open Classical in
noncomputable def strickenM (c : GCluster) (id : Int) : Bool := if ClusOk c ∧ 0 ≤ findI c id then strB c (c.txs.getD (findI c id).toNat GTx.z) else false
theorem down_any (c : GCluster) (r : Nat) : ((c.places.getD r GPlace.z).machines.any fun m => !(c.machines.getD m.toNat GMachine.z).alive) = downB c r := by
  unfold downB
  rcases hx : anyN (c.places.getD r GPlace.z).machines.length fun k => !(machAt c r k).alive with _ | _
  · exact any_no (z := 0) fun j hj => anyN_get hx j hj
  · obtain ⟨k, hk, h1⟩ := List.any_eq_true.1 hx
    exact any_at (z := 0) (List.mem_range.1 hk) h1
theorem cmI_mem {xs : List Int} {x : Int} : ∀ {k : Nat}, k ≤ xs.length → (x ∈ cmI xs k ↔ ∃ j, j < k ∧ xs.getD j 0 = x)
  | 0, _ => by simp [cmI]
  | k + 1, h => by
    have ih := cmI_mem (xs := xs) (x := x) (k := k) (by omega)
    by_cases c : k = 0 ∨ xs.getD k 0 ≠ xs.getD (k - 1) 0
    · rw [cmI_yes c, List.mem_append, ih]
      constructor
      · rintro (⟨j, h1, h2⟩ | h1)
        · exact ⟨j, by omega, h2⟩
        · exact ⟨k, by omega, (List.mem_singleton.1 h1).symm⟩
      · rintro ⟨j, h1, h2⟩
        by_cases hj : j = k
        · subst hj; exact .inr (List.mem_singleton.2 h2.symm)
        · exact .inl ⟨j, by omega, h2⟩
    · have c0 : 0 < k := by omega
      have c1 : xs.getD k 0 = xs.getD (k - 1) 0 := by
        by_cases h : xs.getD k 0 = xs.getD (k - 1) 0
        · exact h
        · exact absurd (.inr h) c
      rw [cmI_no c0 c1, ih]
      constructor
      · rintro ⟨j, h1, h2⟩; exact ⟨j, by omega, h2⟩
      · rintro ⟨j, h1, h2⟩
        by_cases hj : j = k
        · subst hj; exact ⟨j - 1, by omega, c1.symm.trans h2⟩
        · exact ⟨j, by omega, h2⟩
/-- the regions that are looked at -/
abbrev lookL (t : GTx) (i : Nat) : List Int := cmI (regsOf t) (regsOf t).length ++ ((checksL t).take i).map GNote.region
theorem look_any (c : GCluster) (t : GTx) : ((lookL t (checksL t).length).any fun r => downB c r.toNat) = ((t.sets.any fun s => downB c s.region.toNat) || (checksL t).any fun n => downB c n.region.toNat) := by
  rw [List.any_append, List.take_length, List.any_map]
  congr 1
  rw [Bool.eq_iff_iff, List.any_eq_true, List.any_eq_true]
  constructor
  · rintro ⟨x, hx, h1⟩
    obtain ⟨j, hj, e⟩ := (cmI_mem (Nat.le_refl _)).1 hx
    rw [regsOf_len] at hj
    rw [regsOf_at] at e
    refine ⟨t.sets.getD j GSet.z, ?_, by rw [e]; exact h1⟩
    rw [List.getD_eq_getElem?_getD, List.getElem?_eq_getElem hj]; exact List.getElem_mem hj
  · rintro ⟨s, hs, h1⟩
    obtain ⟨j, hj, e⟩ := List.mem_iff_getElem.1 hs
    refine ⟨s.region, (cmI_mem (Nat.le_refl _)).2 ⟨j, by rw [regsOf_len]; exact hj, ?_⟩, h1⟩
    rw [regsOf_at, List.getD_eq_getElem?_getD, List.getElem?_eq_getElem hj]; exact congrArg GSet.region e
theorem str_dead {c : GCluster} {t : GTx} (h : homeB c t = false) : (bif t.phase != 7 then t.phase != 9 else false) = strB c t := by
  unfold strB
  rw [h]
  by_cases h7 : t.phase = 7
  · simp [h7]
  · by_cases h9 : t.phase = 9
    · simp [h9]
    · simp [h7, h9]
theorem str_still {c : GCluster} {t : GTx} (h : homeB c t = true) (h2 : t.phase = 1 ∨ t.phase = 7 ∨ t.phase = 9) : false = strB c t := by
  unfold strB
  rw [h]
  rcases h2 with h | h | h <;> simp [h]
theorem look_in {c : GCluster} {t : GTx} (ht : TxIn c t) : ∀ k, k < (lookL t (checksL t).length).length → 0 ≤ (lookL t (checksL t).length).getD k 0 ∧ (lookL t (checksL t).length).getD k 0 < c.places.length := fun k hk => by
  have hm : (lookL t (checksL t).length).getD k 0 ∈ lookL t (checksL t).length := by
    rw [List.getD_eq_getElem?_getD, List.getElem?_eq_getElem hk]; exact List.getElem_mem hk
  rcases List.mem_append.1 hm with h | h
  · obtain ⟨j, hj, e⟩ := (cmI_mem (Nat.le_refl _)).1 h
    rw [regsOf_len] at hj
    rw [regsOf_at] at e
    rw [← e]; exact ht.set j hj
  · rw [List.take_length] at h
    obtain ⟨n, hn, e⟩ := List.mem_map.1 h
    obtain ⟨j, hj, e2⟩ := List.mem_iff_getElem.1 hn
    rw [← e, ← e2]
    have := checksL_in ht hj
    rwa [List.getD_eq_getElem?_getD, List.getElem?_eq_getElem hj] at this
end Go.Proofs.YtpfcfepbhdkpdaaGreat
