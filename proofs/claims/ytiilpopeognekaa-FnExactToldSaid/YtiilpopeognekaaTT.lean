/-
  The table of types, by program.
-/
import Derived.Test.YtiilpopeognekaaM9
import Derived.Test.YtiilpopeognekaaProg
namespace Go.Proofs.Ytiilpopeognekaa
open Go Go.RowKit

def TT : List TI := [
  ⟨2, 1, 8, .it .i64, .int .i64 0⟩,
  ⟨3, 1, 8, .it .i64, .int .i64 0⟩,
  ⟨4, 1, 1, .bo, .bool false⟩,
  ⟨22, 1, 24, .slc 2, .slice none 0 0⟩,
  ⟨26, 1, 24, .slc 73, .slice none 0 0⟩,
  ⟨27, 1, 24, .slc 75, .slice none 0 0⟩,
  ⟨29, 7, 88, .st [(0, 2), (1, 2), (2, 2), (3, 2), (4, 26), (5, 27), (6, 2)], .agg #[.int .i64 0, .int .i64 0, .int .i64 0, .int .i64 0, .slice none 0 0, .slice none 0 0, .int .i64 0]⟩,
  ⟨32, 1, 24, .slc 65, .slice none 0 0⟩,
  ⟨33, 1, 24, .slc 60, .slice none 0 0⟩,
  ⟨35, 7, 88, .st [(0, 2), (1, 2), (2, 2), (3, 2), (4, 32), (5, 33), (6, 2)], .agg #[.int .i64 0, .int .i64 0, .int .i64 0, .int .i64 0, .slice none 0 0, .slice none 0 0, .int .i64 0]⟩,
  ⟨60, 5, 40, .st [(0, 2), (1, 2), (2, 2), (3, 4), (4, 2)], .agg #[.int .i64 0, .int .i64 0, .int .i64 0, .bool false, .int .i64 0]⟩,
  ⟨65, 5, 40, .st [(0, 2), (1, 2), (2, 2), (3, 2), (4, 4)], .agg #[.int .i64 0, .int .i64 0, .int .i64 0, .int .i64 0, .bool false]⟩,
  ⟨73, 5, 40, .st [(0, 2), (1, 2), (2, 2), (3, 2), (4, 4)], .agg #[.int .i64 0, .int .i64 0, .int .i64 0, .int .i64 0, .bool false]⟩,
  ⟨75, 5, 40, .st [(0, 2), (1, 2), (2, 2), (3, 4), (4, 2)], .agg #[.int .i64 0, .int .i64 0, .int .i64 0, .bool false, .int .i64 0]⟩,
  ⟨77, 1, 8, .ptr, .pointer none⟩,
  ⟨93, 1, 24, .slc 3, .slice none 0 0⟩,
  ⟨94, 1, 8, .it .u64, .int .u64 0⟩]
theorem tiOk {ti : TI} (h1 : (Try.prog.underlying ti.id).map shapeK = some ti.kind) (h2 : (Try.prog.info? ti.id).map (fun i => (i.size, i.bytes)) = some (ti.sz, ti.by_)) (h3 : (Try.prog.info? ti.id).bind (·.zero) = some ti.zero) : ti.ok Try.prog := ⟨h1, h2, h3⟩
theorem TT_ok : TOk Try.prog TT := by
  unfold TT
  repeat' first
    | exact trivial
    | refine ⟨tiOk (by kernel_rfl) (by kernel_rfl) (by kernel_rfl), ?_⟩
end Go.Proofs.Ytiilpopeognekaa
