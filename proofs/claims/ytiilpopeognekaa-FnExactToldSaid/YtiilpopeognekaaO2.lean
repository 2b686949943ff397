/-
  What a law is handed, by type.
-/
import Derived.Test.YtiilpopeognekaaO
import Derived.Test.YtiilpopeognekaaD2
import Derived.Test.YtiilpopeognekaaTT
namespace Go.Proofs.Ytiilpopeognekaa
open Go Go.RowKit
set_option linter.unusedVariables false
set_option linter.unusedSimpArgs false

theorem opens_Int : Opens Try.prog 2 kInt := opens_int Try.underlying2
theorem opens_Bool : Opens Try.prog 4 kBool := opens_bool Try.underlying4
theorem len1 {α : Type} {l : List α} (h : l.length = 1) : ∃ a0, l = [a0] := by
  match l, h with
  | [a0], _ => exact ⟨a0, rfl⟩
theorem len2 {α : Type} {l : List α} (h : l.length = 2) : ∃ a0 a1, l = [a0, a1] := by
  match l, h with
  | [a0, a1], _ => exact ⟨a0, a1, rfl⟩
theorem len3 {α : Type} {l : List α} (h : l.length = 3) : ∃ a0 a1 a2, l = [a0, a1, a2] := by
  match l, h with
  | [a0, a1, a2], _ => exact ⟨a0, a1, a2, rfl⟩
theorem len4 {α : Type} {l : List α} (h : l.length = 4) : ∃ a0 a1 a2 a3, l = [a0, a1, a2, a3] := by
  match l, h with
  | [a0, a1, a2, a3], _ => exact ⟨a0, a1, a2, a3, rfl⟩
theorem len5 {α : Type} {l : List α} (h : l.length = 5) : ∃ a0 a1 a2 a3 a4, l = [a0, a1, a2, a3, a4] := by
  match l, h with
  | [a0, a1, a2, a3, a4], _ => exact ⟨a0, a1, a2, a3, a4, rfl⟩
theorem len6 {α : Type} {l : List α} (h : l.length = 6) : ∃ a0 a1 a2 a3 a4 a5, l = [a0, a1, a2, a3, a4, a5] := by
  match l, h with
  | [a0, a1, a2, a3, a4, a5], _ => exact ⟨a0, a1, a2, a3, a4, a5, rfl⟩
theorem len7 {α : Type} {l : List α} (h : l.length = 7) : ∃ a0 a1 a2 a3 a4 a5 a6, l = [a0, a1, a2, a3, a4, a5, a6] := by
  match l, h with
  | [a0, a1, a2, a3, a4, a5, a6], _ => exact ⟨a0, a1, a2, a3, a4, a5, a6, rfl⟩
theorem one_eq {a : Value} {v : Value} (h : [a] = [v]) : a = v := by injection h
theorem opens_Set : Opens Try.prog 75 kSet := fun enc W fuel cs x hx hf => by
  obtain ⟨hl, h⟩ := opens_fields TT_ok (t := 75) rfl hx hf
  obtain ⟨a0, a1, a2, a3, a4, rfl⟩ := len5 hl
  obtain ⟨n0, y0, t0, f0⟩ := h 0 _ _ _ rfl rfl
  obtain ⟨x0, e0⟩ := opens_Int enc W _ _ _ t0 f0
  obtain rfl := one_eq (show [a0] = [.int .i64 x0] from e0)
  obtain ⟨n1, y1, t1, f1⟩ := h 1 _ _ _ rfl rfl
  obtain ⟨x1, e1⟩ := opens_Int enc W _ _ _ t1 f1
  obtain rfl := one_eq (show [a1] = [.int .i64 x1] from e1)
  obtain ⟨n2, y2, t2, f2⟩ := h 2 _ _ _ rfl rfl
  obtain ⟨x2, e2⟩ := opens_Int enc W _ _ _ t2 f2
  obtain rfl := one_eq (show [a2] = [.int .i64 x2] from e2)
  obtain ⟨n3, y3, t3, f3⟩ := h 3 _ _ _ rfl rfl
  obtain ⟨x3, e3⟩ := opens_Bool enc W _ _ _ t3 f3
  obtain rfl := one_eq (show [a3] = [.bool x3] from e3)
  obtain ⟨n4, y4, t4, f4⟩ := h 4 _ _ _ rfl rfl
  obtain ⟨x4, e4⟩ := opens_Int enc W _ _ _ t4 f4
  obtain rfl := one_eq (show [a4] = [.int .i64 x4] from e4)
  exact ⟨⟨x0, x1, x2, x3, x4⟩, rfl⟩
theorem opens_Note : Opens Try.prog 73 kNote := fun enc W fuel cs x hx hf => by
  obtain ⟨hl, h⟩ := opens_fields TT_ok (t := 73) rfl hx hf
  obtain ⟨a0, a1, a2, a3, a4, rfl⟩ := len5 hl
  obtain ⟨n0, y0, t0, f0⟩ := h 0 _ _ _ rfl rfl
  obtain ⟨x0, e0⟩ := opens_Int enc W _ _ _ t0 f0
  obtain rfl := one_eq (show [a0] = [.int .i64 x0] from e0)
  obtain ⟨n1, y1, t1, f1⟩ := h 1 _ _ _ rfl rfl
  obtain ⟨x1, e1⟩ := opens_Int enc W _ _ _ t1 f1
  obtain rfl := one_eq (show [a1] = [.int .i64 x1] from e1)
  obtain ⟨n2, y2, t2, f2⟩ := h 2 _ _ _ rfl rfl
  obtain ⟨x2, e2⟩ := opens_Int enc W _ _ _ t2 f2
  obtain rfl := one_eq (show [a2] = [.int .i64 x2] from e2)
  obtain ⟨n3, y3, t3, f3⟩ := h 3 _ _ _ rfl rfl
  obtain ⟨x3, e3⟩ := opens_Int enc W _ _ _ t3 f3
  obtain rfl := one_eq (show [a3] = [.int .i64 x3] from e3)
  obtain ⟨n4, y4, t4, f4⟩ := h 4 _ _ _ rfl rfl
  obtain ⟨x4, e4⟩ := opens_Bool enc W _ _ _ t4 f4
  obtain rfl := one_eq (show [a4] = [.bool x4] from e4)
  exact ⟨⟨x0, x1, x2, x3, x4⟩, rfl⟩
theorem opens_Tx_reads : Opens Try.prog 26 kNote.slice := opens_slice Try.underlying26 opens_Note (by kernel_rfl) (Nat.lt_of_sub_eq_succ rfl)
theorem opens_Tx_sets : Opens Try.prog 27 kSet.slice := opens_slice Try.underlying27 opens_Set (by kernel_rfl) (Nat.lt_of_sub_eq_succ rfl)
theorem opens_Tx : Opens Try.prog 29 kTx := fun enc W fuel cs x hx hf => by
  obtain ⟨hl, h⟩ := opens_fields TT_ok (t := 29) rfl hx hf
  obtain ⟨a0, a1, a2, a3, a4, a5, a6, rfl⟩ := len7 hl
  obtain ⟨n0, y0, t0, f0⟩ := h 0 _ _ _ rfl rfl
  obtain ⟨x0, e0⟩ := opens_Int enc W _ _ _ t0 f0
  obtain rfl := one_eq (show [a0] = [.int .i64 x0] from e0)
  obtain ⟨n1, y1, t1, f1⟩ := h 1 _ _ _ rfl rfl
  obtain ⟨x1, e1⟩ := opens_Int enc W _ _ _ t1 f1
  obtain rfl := one_eq (show [a1] = [.int .i64 x1] from e1)
  obtain ⟨n2, y2, t2, f2⟩ := h 2 _ _ _ rfl rfl
  obtain ⟨x2, e2⟩ := opens_Int enc W _ _ _ t2 f2
  obtain rfl := one_eq (show [a2] = [.int .i64 x2] from e2)
  obtain ⟨n3, y3, t3, f3⟩ := h 3 _ _ _ rfl rfl
  obtain ⟨x3, e3⟩ := opens_Int enc W _ _ _ t3 f3
  obtain rfl := one_eq (show [a3] = [.int .i64 x3] from e3)
  obtain ⟨n4, y4, t4, f4⟩ := h 4 _ _ _ rfl rfl
  obtain ⟨x4, e4⟩ := opens_Tx_reads enc W _ _ _ t4 f4
  obtain ⟨s4, q4, r4⟩ := e4
  obtain rfl := one_eq (show [a4] = [s4] from q4)
  obtain ⟨n5, y5, t5, f5⟩ := h 5 _ _ _ rfl rfl
  obtain ⟨x5, e5⟩ := opens_Tx_sets enc W _ _ _ t5 f5
  obtain ⟨s5, q5, r5⟩ := e5
  obtain rfl := one_eq (show [a5] = [s5] from q5)
  obtain ⟨n6, y6, t6, f6⟩ := h 6 _ _ _ rfl rfl
  obtain ⟨x6, e6⟩ := opens_Int enc W _ _ _ t6 f6
  obtain rfl := one_eq (show [a6] = [.int .i64 x6] from e6)
  exact ⟨⟨x0, x1, x2, x3, x4, x5, x6⟩, _, _, rfl, r4, r5⟩
end Go.Proofs.Ytiilpopeognekaa
