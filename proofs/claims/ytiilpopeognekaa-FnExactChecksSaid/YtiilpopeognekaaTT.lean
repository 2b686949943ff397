/-
  The table of types, by program.
-/
import Derived.Test.YtiilpopeognekaaW18
import Derived.Test.YtiilpopeognekaaProg
namespace Go.Proofs.Ytiilpopeognekaa
open Go Go.RowKit

def TT : List TI := [
  ⟨2, 1, 8, .it .i64, .int .i64 0, false⟩,
  ⟨3, 1, 8, .it .i64, .int .i64 0, false⟩,
  ⟨4, 1, 1, .bo, .bool false, false⟩,
  ⟨22, 1, 24, .slc 2, .slice none 0 0, false⟩,
  ⟨26, 1, 24, .slc 73, .slice none 0 0, false⟩,
  ⟨27, 1, 24, .slc 75, .slice none 0 0, false⟩,
  ⟨29, 7, 88, .st [(0, 2), (1, 2), (2, 2), (3, 2), (4, 26), (5, 27), (6, 2)], .agg #[.int .i64 0, .int .i64 0, .int .i64 0, .int .i64 0, .slice none 0 0, .slice none 0 0, .int .i64 0], false⟩,
  ⟨32, 1, 24, .slc 65, .slice none 0 0, false⟩,
  ⟨33, 1, 24, .slc 60, .slice none 0 0, false⟩,
  ⟨35, 7, 88, .st [(0, 2), (1, 2), (2, 2), (3, 2), (4, 32), (5, 33), (6, 2)], .agg #[.int .i64 0, .int .i64 0, .int .i64 0, .int .i64 0, .slice none 0 0, .slice none 0 0, .int .i64 0], false⟩,
  ⟨60, 5, 40, .st [(0, 2), (1, 2), (2, 2), (3, 4), (4, 2)], .agg #[.int .i64 0, .int .i64 0, .int .i64 0, .bool false, .int .i64 0], true⟩,
  ⟨65, 5, 40, .st [(0, 2), (1, 2), (2, 2), (3, 2), (4, 4)], .agg #[.int .i64 0, .int .i64 0, .int .i64 0, .int .i64 0, .bool false], true⟩,
  ⟨73, 5, 40, .st [(0, 2), (1, 2), (2, 2), (3, 2), (4, 4)], .agg #[.int .i64 0, .int .i64 0, .int .i64 0, .int .i64 0, .bool false], true⟩,
  ⟨75, 5, 40, .st [(0, 2), (1, 2), (2, 2), (3, 4), (4, 2)], .agg #[.int .i64 0, .int .i64 0, .int .i64 0, .bool false, .int .i64 0], true⟩,
  ⟨77, 1, 8, .ptr, .pointer none, false⟩,
  ⟨93, 1, 24, .slc 3, .slice none 0 0, false⟩,
  ⟨94, 1, 8, .it .u64, .int .u64 0, false⟩]
theorem tiOk {ti : TI} (h1 : (Try.prog.underlying ti.id).map shapeK = some ti.kind) (h2 : (Try.prog.info? ti.id).map (fun i => (i.size, i.bytes)) = some (ti.sz, ti.by_)) (h3 : (Try.prog.info? ti.id).bind (·.zero) = some ti.zero) (h4 : (!ti.eqf || eqPlain Try.prog ti.id) = true) : ti.ok Try.prog := ⟨h1, h2, h3, fun e => by rw [e] at h4; exact h4⟩
theorem TT_ok : TOk Try.prog TT := by
  unfold TT
  repeat' first
    | exact trivial
    | refine ⟨tiOk (by kernel_rfl) (by kernel_rfl) (by kernel_rfl) (by kernel_rfl), ?_⟩
end Go.Proofs.Ytiilpopeognekaa
