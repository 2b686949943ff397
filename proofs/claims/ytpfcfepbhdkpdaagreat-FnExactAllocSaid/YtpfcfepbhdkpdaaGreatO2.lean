
/-
  What a law is handed, at kinds that hold slices.
-/
import Derived.Test.YtpfcfepbhdkpdaaGreatP9
import Derived.Test.YtpfcfepbhdkpdaaGreatO
namespace Go.Proofs.YtpfcfepbhdkpdaaGreat
open Go Go.RowKit
set_option linter.unusedVariables false
set_option linter.unusedSimpArgs false

theorem opens_CellS : Opens Tryz.prog 188 (fun xs : List GCell => [dL 2 cCell GCell.z xs]) := opens_slice 2 GCell.z Tryz.underlying188 opens_Cell (by kernel_rfl) (Nat.lt_of_sub_eq_succ rfl)
theorem opens_SetS : Opens Tryz.prog 113 (fun xs : List GSet => [dL 5 cSet GSet.z xs]) := opens_slice 5 GSet.z Tryz.underlying113 opens_Set (by kernel_rfl) (Nat.lt_of_sub_eq_succ rfl)
theorem opens_NoteS : Opens Tryz.prog 112 (fun xs : List GNote => [dL 5 cNote GNote.z xs]) := opens_slice 5 GNote.z Tryz.underlying112 opens_Note (by kernel_rfl) (Nat.lt_of_sub_eq_succ rfl)
theorem opens_Int64S : Opens Tryz.prog 78 (fun xs : List Int => [dL 1 cInt 0 xs]) := opens_slice 1 0 Tryz.underlying78 opens_Int (by kernel_rfl) (Nat.lt_of_sub_eq_succ rfl)
theorem opens_Place : Opens Tryz.prog 105 cPlace := fun enc W fuel cs x hx hf => by
  obtain ⟨hl, h⟩ := opens_fields TT_ok (t := 105) rfl hx hf
  obtain ⟨a0, rfl⟩ := len1 hl
  obtain ⟨n0, y0, t0, f0⟩ := h 0 _ _ _ rfl rfl
  obtain ⟨x0, e0⟩ := opens_Int64S enc W _ _ _ t0 f0
  exact ⟨⟨x0⟩, ⟨a0, _, rfl, rds_one e0, rfl⟩⟩
theorem opens_PlaceS : Opens Tryz.prog 22 (fun xs : List GPlace => [dL 1 cPlace GPlace.z xs]) := opens_slice 1 GPlace.z Tryz.underlying22 opens_Place (by kernel_rfl) (Nat.lt_of_sub_eq_succ rfl)
theorem opens_Record : Opens Tryz.prog 193 cRecord := fun enc W fuel cs x hx hf => by
  obtain ⟨hl, h⟩ := opens_fields TT_ok (t := 193) rfl hx hf
  obtain ⟨a0, a1, a2, a3, rfl⟩ := len4 hl
  obtain ⟨n0, y0, t0, f0⟩ := h 0 _ _ _ rfl rfl
  obtain ⟨x0, e0⟩ := opens_Int enc W _ _ _ t0 f0
  obtain ⟨n1, y1, t1, f1⟩ := h 1 _ _ _ rfl rfl
  obtain ⟨x1, e1⟩ := opens_Int enc W _ _ _ t1 f1
  obtain ⟨n2, y2, t2, f2⟩ := h 2 _ _ _ rfl rfl
  obtain ⟨x2, e2⟩ := opens_Int enc W _ _ _ t2 f2
  obtain ⟨n3, y3, t3, f3⟩ := h 3 _ _ _ rfl rfl
  obtain ⟨x3, e3⟩ := opens_SetS enc W _ _ _ t3 f3
  exact ⟨⟨x0, x1, x2, x3⟩, ⟨a0, _, rfl, rds_one e0, ⟨a1, _, rfl, rds_one e1, ⟨a2, _, rfl, rds_one e2, ⟨a3, _, rfl, rds_one e3, rfl⟩⟩⟩⟩⟩
theorem opens_RecordS : Opens Tryz.prog 108 (fun xs : List GRecord => [dL 4 cRecord GRecord.z xs]) := opens_slice 4 GRecord.z Tryz.underlying108 opens_Record (by kernel_rfl) (Nat.lt_of_sub_eq_succ rfl)
theorem opens_Copy : Opens Tryz.prog 190 cCopy := fun enc W fuel cs x hx hf => by
  obtain ⟨hl, h⟩ := opens_fields TT_ok (t := 190) rfl hx hf
  obtain ⟨a0, a1, rfl⟩ := len2 hl
  obtain ⟨n0, y0, t0, f0⟩ := h 0 _ _ _ rfl rfl
  obtain ⟨x0, e0⟩ := opens_Int enc W _ _ _ t0 f0
  obtain ⟨n1, y1, t1, f1⟩ := h 1 _ _ _ rfl rfl
  obtain ⟨x1, e1⟩ := opens_CellS enc W _ _ _ t1 f1
  exact ⟨⟨x0, x1⟩, ⟨a0, _, rfl, rds_one e0, ⟨a1, _, rfl, rds_one e1, rfl⟩⟩⟩
theorem opens_CopyS : Opens Tryz.prog 107 (fun xs : List GCopy => [dL 2 cCopy GCopy.z xs]) := opens_slice 2 GCopy.z Tryz.underlying107 opens_Copy (by kernel_rfl) (Nat.lt_of_sub_eq_succ rfl)
theorem opens_Machine : Opens Tryz.prog 110 cMachine := fun enc W fuel cs x hx hf => by
  obtain ⟨hl, h⟩ := opens_fields TT_ok (t := 110) rfl hx hf
  obtain ⟨a0, a1, a2, a3, rfl⟩ := len4 hl
  obtain ⟨n0, y0, t0, f0⟩ := h 0 _ _ _ rfl rfl
  obtain ⟨x0, e0⟩ := opens_Bool enc W _ _ _ t0 f0
  obtain ⟨n1, y1, t1, f1⟩ := h 1 _ _ _ rfl rfl
  obtain ⟨x1, e1⟩ := opens_CopyS enc W _ _ _ t1 f1
  obtain ⟨n2, y2, t2, f2⟩ := h 2 _ _ _ rfl rfl
  obtain ⟨x2, e2⟩ := opens_RecordS enc W _ _ _ t2 f2
  obtain ⟨n3, y3, t3, f3⟩ := h 3 _ _ _ rfl rfl
  obtain ⟨x3, e3⟩ := opens_Int64S enc W _ _ _ t3 f3
  exact ⟨⟨x0, x1, x2, x3⟩, ⟨a0, _, rfl, rds_one e0, ⟨a1, _, rfl, rds_one e1, ⟨a2, _, rfl, rds_one e2, ⟨a3, _, rfl, rds_one e3, rfl⟩⟩⟩⟩⟩
theorem opens_MachineS : Opens Tryz.prog 23 (fun xs : List GMachine => [dL 4 cMachine GMachine.z xs]) := opens_slice 4 GMachine.z Tryz.underlying23 opens_Machine (by kernel_rfl) (Nat.lt_of_sub_eq_succ rfl)
theorem opens_TxS : Opens Tryz.prog 24 (fun xs : List GTx => [dL 7 cTx GTx.z xs]) := opens_slice 7 GTx.z Tryz.underlying24 opens_Tx (by kernel_rfl) (Nat.lt_of_sub_eq_succ rfl)
theorem opens_Cluster : Opens Tryz.prog 26 cCluster := fun enc W fuel cs x hx hf => by
  obtain ⟨hl, h⟩ := opens_fields TT_ok (t := 26) rfl hx hf
  obtain ⟨a0, a1, a2, a3, a4, a5, rfl⟩ := len6 hl
  obtain ⟨n0, y0, t0, f0⟩ := h 0 _ _ _ rfl rfl
  obtain ⟨x0, e0⟩ := opens_Int enc W _ _ _ t0 f0
  obtain ⟨n1, y1, t1, f1⟩ := h 1 _ _ _ rfl rfl
  obtain ⟨x1, e1⟩ := opens_Int enc W _ _ _ t1 f1
  obtain ⟨n2, y2, t2, f2⟩ := h 2 _ _ _ rfl rfl
  obtain ⟨x2, e2⟩ := opens_PlaceS enc W _ _ _ t2 f2
  obtain ⟨n3, y3, t3, f3⟩ := h 3 _ _ _ rfl rfl
  obtain ⟨x3, e3⟩ := opens_MachineS enc W _ _ _ t3 f3
  obtain ⟨n4, y4, t4, f4⟩ := h 4 _ _ _ rfl rfl
  obtain ⟨x4, e4⟩ := opens_TxS enc W _ _ _ t4 f4
  obtain ⟨n5, y5, t5, f5⟩ := h 5 _ _ _ rfl rfl
  obtain ⟨x5, e5⟩ := opens_Bool enc W _ _ _ t5 f5
  exact ⟨⟨x0, x1, x2, x3, x4, x5⟩, ⟨a0, _, rfl, rds_one e0, ⟨a1, _, rfl, rds_one e1, ⟨a2, _, rfl, rds_one e2, ⟨a3, _, rfl, rds_one e3, ⟨a4, _, rfl, rds_one e4, ⟨a5, _, rfl, rds_one e5, rfl⟩⟩⟩⟩⟩⟩⟩
end Go.Proofs.YtpfcfepbhdkpdaaGreat
