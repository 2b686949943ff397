
/-
  Clusters are asked: votes, who is up, cells; on both sides.
-/
import Derived.Test.YtamcahpdepepfaaP13
namespace Go.Proofs.Ytamcahpdepepfaa
open Go Go.RowKit
set_option linter.unusedVariables false
set_option linter.unusedSimpArgs false
set_option maxRecDepth 4000

/-- where a transaction stands -/
def findI (c : GCluster) (id : Int) : Int := idxI (fun t : GTx => t.id == id) c.txs
theorem findI_in {c : GCluster} {id : Int} (h : 0 ≤ findI c id) : (findI c id).toNat < c.txs.length ∧ (c.txs.getD (findI c id).toNat GTx.z).id = id := by
  rcases idxI_cases (fun t : GTx => t.id == id) GTx.z c.txs with ⟨h1, h2⟩ | ⟨i, h1, h2, h3, h4⟩
  · rw [findI, h1] at h; omega
  · rw [findI, h2]; exact ⟨by simpa using h1, by simpa using h4⟩
theorem findI_lt {c : GCluster} {id : Int} : findI c id < c.txs.length := by
  rcases idxI_cases (fun t : GTx => t.id == id) GTx.z c.txs with ⟨h1, h2⟩ | ⟨i, h1, h2, h3, h4⟩
  · rw [findI, h1]; omega
  · rw [findI, h2]; omega
theorem bdT_any {c : GCluster} (hb : D.bds bigN (cCluster c)) (i : Nat) : D.bds bigN (cTx (c.txs.getD i GTx.z)) := bd_at hb.2.2.2.2.1 ⟨trivial, trivial, trivial, trivial, ⟨Nat.zero_le _, fun i hi => absurd hi (Nat.not_lt_zero _)⟩, ⟨Nat.zero_le _, fun i hi => absurd hi (Nat.not_lt_zero _)⟩, trivial, trivial⟩ _
theorem ClusOk.tx {c : GCluster} (h : ClusOk c) {i : Nat} (hi : i < c.txs.length) : TxOk (c.txs.getD i GTx.z) := by
  have h1 := (h.2.2.2.2 i hi).1
  unfold badTx at h1
  cases c1 : dec (TxOk (c.txs.getD i GTx.z)) with
  | true => exact dec_iff.1 c1
  | false => rw [c1] at h1; cases h1
theorem ClusOk.set {c : GCluster} (h : ClusOk c) {i k : Nat} (hi : i < c.txs.length) (hk : k < (c.txs.getD i GTx.z).sets.length) : 0 ≤ ((c.txs.getD i GTx.z).sets.getD k GSet.z).region ∧ ((c.txs.getD i GTx.z).sets.getD k GSet.z).region < c.places.length := by
  have h1 := ((h.tx hi).2.2 k hk).1
  refine ⟨?_, (h.2.2.2.2 i hi).2.2 k hk⟩
  unfold setB at h1
  cases c1 : inB ((c.txs.getD i GTx.z).sets.getD k GSet.z).region 0 5 with
  | true => exact (inB_iff.1 c1).1
  | false => rw [c1] at h1; cases h1
theorem ClusOk.note {c : GCluster} (h : ClusOk c) {i k : Nat} (hi : i < c.txs.length) (hk : k < (c.txs.getD i GTx.z).reads.length) : 0 ≤ ((c.txs.getD i GTx.z).reads.getD k GNote.z).region ∧ ((c.txs.getD i GTx.z).reads.getD k GNote.z).region < c.places.length := by
  have h1 := ((h.tx hi).2.1 k hk).1
  refine ⟨?_, (h.2.2.2.2 i hi).2.1 k hk⟩
  unfold noteB at h1
  cases c1 : inB ((c.txs.getD i GTx.z).reads.getD k GNote.z).region 0 5 with
  | true => exact (inB_iff.1 c1).1
  | false => rw [c1] at h1; cases h1
theorem setsAt_in {c : GCluster} (h : ClusOk c) {i : Nat} {r0 : Int} (hi : i < c.txs.length) (hn : (setsAt r0 (c.txs.getD i GTx.z).sets).length ≠ 0) : 0 ≤ r0 ∧ r0 < c.places.length := by
  have hp : 0 < (setsAt r0 (c.txs.getD i GTx.z).sets).length := by omega
  have hm := List.getElem_mem hp
  unfold setsAt at hm
  obtain ⟨m1, m2⟩ := List.mem_filter.1 hm
  obtain ⟨k, hk, e⟩ := List.mem_iff_getElem.1 m1
  have h2 := h.set hi hk
  have e2 : ((c.txs.getD i GTx.z).sets.getD k GSet.z).region = r0 := by
    have : (c.txs.getD i GTx.z).sets.getD k GSet.z = (c.txs.getD i GTx.z).sets[k] := by rw [List.getD_eq_getElem?_getD, List.getElem?_eq_getElem hk]; rfl
    rw [this, e]; simpa using m2
  rwa [e2] at h2
open Classical in
noncomputable def voteM (c : GCluster) (id r0 : Int) : Int := if ClusOk c ∧ 0 ≤ findI c id ∧ (setsAt r0 (c.txs.getD (findI c id).toNat GTx.z).sets).length ≠ 0 then voteN c id r0 (c.places.getD r0.toNat GPlace.z).machines.length else 0
/-! ### who is up -/
def upL (c : GCluster) : Nat → List Int
  | 0 => []
  | i + 1 => if (c.machines.getD i GMachine.z).alive = true then upL c i ++ [(i : Int)] else upL c i
theorem upL_le (c : GCluster) : ∀ n, (upL c n).length ≤ n
  | 0 => Nat.le_refl _
  | n + 1 => by
    have := upL_le c n
    unfold upL; split
    · rw [List.length_append, List.length_singleton]; omega
    · omega
open Classical in
noncomputable def upperM (c : GCluster) : List Int := if ClusOk c then upL c c.machines.length else []
theorem upperM_le (c : GCluster) : (upperM c).length ≤ c.machines.length := by
  unfold upperM; split
  · exact upL_le c _
  · exact Nat.zero_le _
/-! ### cells -/
/-- a function that makes a list of cells, and says whether -/
abbrev MkCells (P : Program) (f : Nat) (args : List SV) (xs : List GCell) (b : Bool) : Prop := Con P f [] args [] (fun _ : Unit => True) (fun _ => [.a (.g 900), vB b]) fun _ => [(900, arrC 2 cCell GCell.z xs)]
end Go.Proofs.Ytamcahpdepepfaa
